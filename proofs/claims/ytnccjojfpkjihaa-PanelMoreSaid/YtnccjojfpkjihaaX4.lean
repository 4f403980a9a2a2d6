/-
  A part of the symbolic machine, of its soundness, and of what functions compute. No condition.
-/
import Derived.Attr
import Derived.OpenShut
import Derived.Carry
import Derived.ChangeArms
import Derived.WideShapes
import Derived.WideWitness
import Derived.ProofKit
import Derived.SizedLaws
import Derived.Test.YtnccjojfpkjihaaX3
set_option linter.unusedSimpArgs false
set_option linter.unusedVariables false
/- The seat's context. -/
section
namespace Go.Eng
open Go Go.RowKit Go.Proofs
theorem den_row_congr {E : Env} {w : World} {n sz : Nat} {f f' : Nat → Nat → SV} (h : ∀ i j, i < n → j < sz → f i j = f' i j) {v : Value} (hd : Den E w (.row n sz f) v) : Den E w (.row n sz f') v := by
  cases hd with
  | row A cap g hA ho hn hc h1 hd => exact .row A cap g hA ho hn hc h1 (fun i j hi hj => by rw [← h i j hi hj]; exact hd i j hi hj)
  | rowZ a cap => exact .rowZ a cap
theorem SameD.int {n sz : Nat} {f : Nat → Nat → SV} (h : IntR n sz f) : SameD (.row n sz f) (.row n sz fun i j => .int .i64 (iv (f i j))) := ⟨fun _ _ _ hd => den_row_congr h hd⟩
def rowF (k : IntKind) (a : Nat → Nat → Int) : Nat → Nat → SV := fun i j => .int k (a i j)
theorem rowF_eq (k : IntKind) (a : Nat → Nat → Int) : rowF k a = fun i j => .int k (a i j) := rfl
def SameL : List SV → List SV → Prop
  | [], [] => True
  | x :: l, y :: k => SameD x y ∧ SameL l k
  | _, _ => False
theorem SameL.den {E : Env} {w : World} : ∀ {l k : List SV}, SameL l k → l.length = k.length ∧ ∀ (i : Nat) (y : SV), k[i]? = some y → ∃ x, l[i]? = some x ∧ ∀ v, Den E w x v → Den E w y v
  | [], [], _ => ⟨rfl, fun i y h => by simp at h⟩
  | x :: l, y :: k, h => by
    obtain ⟨h1, h2⟩ := SameL.den (E := E) (w := w) h.2
    refine ⟨by simp [h1], fun i z hz => ?_⟩
    cases i with
    | zero => simp at hz; subst hz; exact ⟨x, rfl, fun v hv => h.1.out _ _ _ hv⟩
    | succ i => exact h2 i z (by simpa using hz)
  | [], _ :: _, h => h.elim
  | _ :: _, [], h => h.elim
theorem calls_congr {P : Program} {g : Nat} {args args' : List SV} {h : HS} {K : Out → HS → Prop} (hs : SameL args args') (hc : CallsS P g args' h K) : CallsS P g args h K := fun E w vals hr hd => by
  obtain ⟨h1, h2⟩ := hs.den (E := E) (w := w)
  exact hc E w vals hr ⟨by rw [hd.1, h1], fun i y u hy hu => by
    obtain ⟨x, hx, hv⟩ := h2 i y hy
    exact hv u (hd.2 i x u hx hu)⟩
abbrev BaseF : Type := List SV → Option (Prop × SV)
def lookP : List (Nat × Nat × Plan) → Nat → Nat → Option Plan
  | [], _, _ => none
  | (a, b, p) :: l, g, id => if g = a then if id = b then some p else lookP l g id else lookP l g id
def lookO : List (Nat × Nat × BaseF) → Nat → Option (Nat × BaseF)
  | [], _ => none
  | (k, x) :: l, g => if g = k then some x else lookO l g
def mapS : Option BaseF → Option (Nat × BaseF) → Option Spec
  | some f, _ => some (lendS f)
  | none, some (ty, f) => some (lendO ty f)
  | none, none => none
noncomputable def cx (hof : List Nat) (OL : List (Nat × Nat × BaseF)) (GL : List (Nat × BaseF)) (PL : List (Nat × Nat × Plan)) (D : Option (List Nat)) : Ctx :=
  ctx0 Try.prog tabL (memN hof) (fun g => mapS (lookG GL g) (lookO OL g)) (lookP PL) D
section
variable (hof : List Nat) (OL : List (Nat × Nat × BaseF)) (GL : List (Nat × BaseF)) (PL : List (Nat × Nat × Plan)) (D : Option (List Nat))
theorem cx_P : (cx hof OL GL PL D).P = Try.prog := rfl
theorem cx_T : (cx hof OL GL PL D).T = tab := rfl
theorem cx_F : (cx hof OL GL PL D).F = entB Try.prog := rfl
theorem cx_FN (g : Nat) : (cx hof OL GL PL D).FN g = Try.prog.funcs[g]? := rfl
theorem cx_inl (g : Nat) : (cx hof OL GL PL D).inl g = !memN hof g := rfl
theorem cx_G (g : Nat) : (cx hof OL GL PL D).G g = mapS (lookG GL g) (lookO OL g) := rfl
theorem cx_plan (g id : Nat) : (cx hof OL GL PL D).plan g id = lookP PL g id := rfl
theorem cx_D : (cx hof OL GL PL D).D = D := rfl
theorem cx_rs : (cx hof OL GL PL D).rs = false := rfl
theorem cx_off : (cx hof OL GL PL D).off = cx hof OL GL PL none := rfl
end
theorem lookG_mem : ∀ {l : List (Nat × BaseF)} {g : Nat} {f : BaseF}, lookG l g = some f → (g, f) ∈ l
  | [], g, f, h => by simp [lookG] at h
  | (k, x) :: l, g, f, h => by
    simp only [lookG] at h
    split at h
    · rename_i e; cases h; subst e; simp
    · exact List.mem_cons_of_mem _ (lookG_mem h)
theorem lookO_mem : ∀ {l : List (Nat × Nat × BaseF)} {g : Nat} {x : Nat × BaseF}, lookO l g = some x → (g, x) ∈ l
  | [], g, f, h => by simp [lookO] at h
  | (k, x) :: l, g, f, h => by
    simp only [lookO] at h
    split at h
    · rename_i e; cases h; subst e; simp
    · exact List.mem_cons_of_mem _ (lookO_mem h)
/-- Every contract of a list holds. -/
def AllB : List (Nat × BaseF) → Prop
  | [] => True
  | (g, b) :: l => Base Try.prog g b ∧ AllB l
def AllO : List (Nat × Nat × BaseF) → Prop
  | [] => True
  | (g, ty, b) :: l => BaseO Try.prog g ty b ∧ AllO l
theorem AllB_mem : ∀ {l : List (Nat × BaseF)}, AllB l → ∀ x ∈ l, Base Try.prog x.1 x.2
  | [], _, x, hx => by simp at hx
  | (g, b) :: l, h, x, hx => by
    rcases List.mem_cons.1 hx with rfl | hx
    · exact h.1
    · exact AllB_mem h.2 x hx
theorem AllO_mem : ∀ {l : List (Nat × Nat × BaseF)}, AllO l → ∀ x ∈ l, BaseO Try.prog x.1 x.2.1 x.2.2
  | [], _, x, hx => by simp at hx
  | (g, b) :: l, h, x, hx => by
    rcases List.mem_cons.1 hx with rfl | hx
    · exact h.1
    · exact AllO_mem h.2 x hx
theorem cx_ok {hof : List Nat} {OL : List (Nat × Nat × BaseF)} {GL : List (Nat × BaseF)} {PL : List (Nat × Nat × Plan)} {D : Option (List Nat)} (hO : AllO OL) (h : AllB GL) : CtxOk (cx hof OL GL PL D) :=
  ctx0_ok tab_chk _ _ _ _ (fun g f hf args h0 p v h1 hq hp => by
    cases hl : lookG GL g with
    | none =>
      cases hm : lookO OL g with
      | none => rw [hl, hm] at hf; cases hf
      | some x =>
        rw [hl, hm] at hf
        cases hf
        exact lendO_ok (AllO_mem hO _ (lookO_mem hm)) args h0 p v h1 hq hp
    | some b =>
      rw [hl] at hf
      cases hf
      exact lend_ok (AllB_mem h _ (lookG_mem hl)) args h0 p v h1 hq hp) (by kernel_rfl)
theorem calls_mono {P : Program} {g : Nat} {args : List SV} {h : HS} {K K' : Out → HS → Prop} (hk : ∀ o h', K o h' → K' o h') (hc : CallsS P g args h K) : CallsS P g args h K' := fun E w vals hr hd =>
  (hc E w vals hr hd).mono fun _ _ ⟨o, h', E', q, r⟩ => ⟨o, h', E', hk o h' q, r⟩
theorem SameD.row0 {sz sz' : Nat} {f f' : Nat → Nat → SV} : SameD (.row 0 sz f) (.row 0 sz' f') := ⟨fun _ _ _ hd => by cases hd <;> exact .rowZ _ _⟩
theorem SameD.tup {l k : List SV} (h : SameL l k) : SameD (.tup l) (.tup k) := ⟨fun E w v hd => by
  cases hd
  rename_i vs hs hd
  obtain ⟨h1, h2⟩ := h.den (E := E) (w := w)
  exact .tup vs (by rw [← h1]; exact hs) (fun i y u hy hu => by
    obtain ⟨x, hx, hv⟩ := h2 i y hy
    exact hv u (hd i x u hx hu))⟩
theorem SameD.agg {l k : List SV} (h : SameL l k) : SameD (.agg l) (.agg k) := ⟨fun E w v hd => by
  obtain ⟨h1, h2⟩ := h.den (E := E) (w := w)
  match v, hd with
  | _, .agg vs hs h1' hd => exact .agg vs (by rw [← h1]; exact hs) h1' (fun i y u hy hu => by
      obtain ⟨x, hx, hv⟩ := h2 i y hy
      exact hv u (hd i x u hx hu))⟩
theorem SameD.rptr {sz : Nat} {f g : Nat → SV} (h : ∀ j, j < sz → SameD (f j) (g j)) : SameD (.rptr sz f) (.rptr sz g) := ⟨fun E w v hd => by
  match v, hd with
  | _, .rptr A gg hA ho hc h1 hd => exact .rptr A gg hA ho hc h1 (fun j hj => (h j hj).1 E w _ (hd j hj))⟩
/-- A row of bools. -/
def bvf (f : Nat → Nat → SV) : Nat → Bool := fun i => match f i 0 with
  | .bool b => b
  | _ => false
theorem bvf_lit (p : Nat → Bool) : bvf (fun i _ => .bool (p i)) = p := rfl
def BoolR (n : Nat) (f : Nat → Nat → SV) : Prop := ∀ i j, i < n → j < 1 → f i j = .bool (bvf f i)
theorem boolR_lit (n : Nat) (p : Nat → Bool) : BoolR n (fun i _ => .bool (p i)) = True := eq_true fun _ _ _ _ => rfl
/-- A contract out of a run over an empty heap. -/
theorem base_of {C : Ctx} (hC : CtxOk C) (hD : C.off = C) {g : Nat} {fn : Func} {c : Code} (hf : C.FN g = some fn) (hb : fn.body = some c) {args args' : List SV} {v : SV} (n : Nat) (h1 : BdL 0 0 args) (hs : SameL args args')
    (hrun : run C n g [.code c] (catS args' (anys (fn.ntmps - lenS args'))) [] ⟨[], []⟩ (fun o h' => ∃ u, o = .ret u ∧ Fl u ∧ u = v)) :
    BdL 0 0 args ∧ CallsS C.P g args ⟨[], []⟩ (fun o h' => ∃ u, o = .ret u ∧ ((Fl u ∧ SameD u v) ∨ FzT h' u v)) :=
  ⟨h1, calls_mono (fun _ _ ⟨u, e1, e2, e3⟩ => ⟨u, e1, .inl ⟨e2, by rw [e3]; exact SameD.rfl' _⟩⟩) (calls_congr hs (calls_of_run hC hD hf hb n hrun))⟩
theorem baseO_of {C : Ctx} (hC : CtxOk C) (hD : C.off = C) {g : Nat} {fn : Func} {c : Code} (hf : C.FN g = some fn) (hb : fn.body = some c) {ty : TypeId} {args args' : List SV} {v : SV} (n : Nat) (h1 : BdL 0 0 args) (hs : SameL args args')
    (hrun : run C n g [.code c] (catS args' (anys (fn.ntmps - lenS args'))) [] ⟨[], []⟩ (fun o h' => ∃ u, o = .ret u ∧ OwnT h' ty u v)) :
    BdL 0 0 args ∧ CallsS C.P g args ⟨[], []⟩ (fun o h' => ∃ u, o = .ret u ∧ OwnT h' ty u v) :=
  ⟨h1, calls_congr hs (calls_of_run hC hD hf hb n hrun)⟩
theorem retQ (x v : SV) : (∃ u, Out.ret x = Out.ret u ∧ Fl u ∧ u = v) = (Fl x ∧ x = v) :=
  propext ⟨fun ⟨u, e, h1, h2⟩ => by cases e; exact ⟨h1, h2⟩, fun ⟨h1, h2⟩ => ⟨x, rfl, h1, h2⟩⟩
theorem retF (h : HS) (x v : SV) : (∃ u, Out.ret x = Out.ret u ∧ FzT h u v) = FzT h x v :=
  propext ⟨fun ⟨u, e, h1⟩ => by cases e; exact h1, fun h1 => ⟨x, rfl, h1⟩⟩
theorem retP (x : SV) (P : SV → Prop) : (∃ u, Out.ret x = Out.ret u ∧ P u) = P x :=
  propext ⟨fun ⟨u, e, h1⟩ => by cases e; exact h1, fun h1 => ⟨x, rfl, h1⟩⟩
theorem retO (h : HS) (ty : TypeId) (x v : SV) : (∃ u, Out.ret x = Out.ret u ∧ OwnT h ty u v) = OwnT h ty x v :=
  propext ⟨fun ⟨u, e, h1⟩ => by cases e; exact h1, fun h1 => ⟨x, rfl, h1⟩⟩
theorem frzF_ite (k : Nat) (h : HS) (c : Prop) [Decidable c] (x y : SV) : frzF k h (if c then x else y) = if c then frzF k h x else frzF k h y := by split <;> rfl
end Go.Eng
end

/- Contracts of functions that are handed nothing of the caller's own, and whose results are foreign to all. -/
section
namespace Go.Eng
open Go Go.RowKit Go.Proofs
/-- A result all of whose own slices are given away. -/
def frzT (h : HS) : SV → SV
  | .tup l => .tup (frzA h l)
  | x => frzF 4 h x
theorem frzT_den {E : Env} {h : HS} {w : World} (hr : RelH E h w) {x : SV} {v : Value} (hd : Den E w x v) (hb : Bd 0 0 (frzT h x)) : Den E.lent w (frzT h x) v := by
  cases x with
  | tup l =>
    simp only [frzT, Bd] at hb ⊢
    cases hd with
    | tup vs hs hd =>
      obtain ⟨h1, h2⟩ := frzA_den hr (args := l) (vals := vs) ⟨hs, hd⟩ hb
      exact .tup vs h1 h2
  | _ => exact frzF_den hr 4 hd hb
theorem calls_frz {P : Program} {g : Nat} {args : List SV} {K : Out → HS → Prop} (hc : CallsS P g args ⟨[], []⟩ K) (K' : Out → HS → Prop)
    (hk : ∀ o h', K o h' → ∃ u, o = .ret u ∧ Bd 0 0 (frzT h' u) ∧ K' (.ret (frzT h' u)) ⟨[], []⟩) : CallsS P g args ⟨[], []⟩ K' := by
  intro E w vals hr hd
  refine (hc E w vals hr hd).mono ?_
  rintro e w' ⟨o, h', E', hk0, hr', hx, hout⟩
  obtain ⟨u, rfl, hb, hK⟩ := hk o h' hk0
  have e1 : E.nb = 0 := hr.nb
  have e2 : E.nv = 0 := hr.nv
  refine ⟨.ret (frzT h' u), ⟨[], []⟩, E'.lent, hK, lent_rel hr', ⟨hx.os, hx.tape, hx.output, hx.size, by simp [e1], by simp [e2], fun nm hn => by omega, fun id ver y hi => by omega, fun b hb ho => ?_, fun b ho => ?_⟩, ?_⟩
  · obtain ⟨k1, k2⟩ := hx.keep b hb ho
    exact ⟨by simp [Env.lent, k1], k2⟩
  · obtain ⟨k1, k2⟩ := hx.oth b ho
    exact ⟨by simp [Env.lent, k1], k2⟩
  · cases e with
    | returned val => exact frzT_den hr' hout hb
    | panicked _ => exact hout.elim
    | outgrown => exact hout.elim
def NB (P : Program) (g : Nat) (base : BaseF) : Prop :=
  ∀ args p v, base args = some (p, v) → p → BdL 0 0 args ∧ Bd 0 0 v ∧ CallsS P g args ⟨[], []⟩ (fun o _ => o = .ret v)
def bareR (r : Option (Prop × SV)) (h : HS) : Option (Prop × SV × HS) := match r with
  | some (p, v) => some (p, v, h)
  | none => none
def dnl1 (x : SV) : SV := match isN x with
  | some (_, sz) => .row 0 sz (fun _ _ => .any)
  | none => x
/-- Nil slices, said as rows. -/
def dnl : SV → SV
  | .agg l => .agg (mapF dnl1 l)
  | x => dnl1 x
theorem dnl1_same (x : SV) : SameD x (dnl1 x) := by
  unfold dnl1
  split
  · rename_i e sz hx
    obtain rfl : x = .nils e sz := by cases x <;> simp [isN] at hx; obtain ⟨rfl, rfl⟩ := hx; rfl
    exact ⟨fun E w v hd => by cases hd; exact .rowZ _ _⟩
  · exact SameD.rfl' _
theorem SameL.map {F : SV → SV} (hF : ∀ x, SameD x (F x)) : ∀ l, SameL l (mapF F l)
  | [] => trivial
  | x :: l => ⟨hF x, SameL.map hF l⟩
theorem dnl_same (x : SV) : SameD x (dnl x) := by
  unfold dnl
  split
  · exact SameD.agg (SameL.map dnl1_same _)
  · exact dnl1_same _
def bareS (base : BaseF) : Spec := fun args h => bareR (base (mapF dnl args)) h
theorem bareS_ok {P : Program} {g : Nat} {base : BaseF} (hb : NB P g base) : ∀ args h p v h1, bareS base args h = some (p, v, h1) → p → CallsS P g args h fun o h' => o = .ret v ∧ h' = h1 := by
  intro args h0 p v h1 hq hp
  unfold bareS bareR at hq
  split at hq
  rotate_left
  · cases hq
  rename_i p' v' hbase
  cases hq
  obtain ⟨b1, b2, b3⟩ := hb _ _ _ hbase hp
  refine calls_congr (SameL.map dnl_same args) ?_
  exact frame_calls b3 b1 (fun o => o = .ret v) (fun o h' e => by subst e; exact ⟨rfl, b2⟩) h0
theorem nb_of {C : Ctx} (hC : CtxOk C) (hD : C.off = C) {g : Nat} {fn : Func} {c : Code} (hf : C.FN g = some fn) (hb : fn.body = some c) {args args' : List SV} {v : SV} (n : Nat) (h1 : BdL 0 0 args) (hs : SameL args args') (hv : Bd 0 0 v)
    (hrun : run C n g [.code c] (catS args' (anys (fn.ntmps - lenS args'))) [] ⟨[], []⟩ (fun o h' => ∃ u, o = .ret u ∧ Bd 0 0 (frzT h' u) ∧ SameD (frzT h' u) v)) :
    BdL 0 0 args ∧ Bd 0 0 v ∧ CallsS C.P g args ⟨[], []⟩ (fun o _ => o = .ret v) := by
  refine ⟨h1, hv, ?_⟩
  have h2 := calls_frz (calls_congr hs (calls_of_run hC hD hf hb n hrun)) (fun o _ => ∃ u, o = .ret u ∧ SameD u v) (fun o h' ⟨u, e1, e2, e3⟩ => ⟨u, e1, e2, _, rfl, e3⟩)
  intro E w vals hr hd
  refine (h2 E w vals hr hd).mono ?_
  rintro e w' ⟨o, h', E', ⟨u, rfl, hs⟩, hr', hx, hout⟩
  refine ⟨.ret v, h', E', rfl, hr', hx, ?_⟩
  cases e with
  | returned val => exact hs.out _ _ _ hout
  | panicked _ => exact hout.elim
  | outgrown => exact hout.elim
def mapN : Option BaseF → Option Spec → Option Spec
  | some f, _ => some (bareS f)
  | none, s => s
noncomputable def cxn (hof : List Nat) (NL : List (Nat × BaseF)) (OL : List (Nat × Nat × BaseF)) (GL : List (Nat × BaseF)) (PL : List (Nat × Nat × Plan)) (D : Option (List Nat)) : Ctx :=
  ctx0 Try.prog tabL (memN hof) (fun g => mapN (lookG NL g) (mapS (lookG GL g) (lookO OL g))) (lookP PL) D
section
variable (hof : List Nat) (NL : List (Nat × BaseF)) (OL : List (Nat × Nat × BaseF)) (GL : List (Nat × BaseF)) (PL : List (Nat × Nat × Plan)) (D : Option (List Nat))
theorem cxn_P : (cxn hof NL OL GL PL D).P = Try.prog := rfl
theorem cxn_T : (cxn hof NL OL GL PL D).T = tab := rfl
theorem cxn_F : (cxn hof NL OL GL PL D).F = entB Try.prog := rfl
theorem cxn_FN (g : Nat) : (cxn hof NL OL GL PL D).FN g = Try.prog.funcs[g]? := rfl
theorem cxn_inl (g : Nat) : (cxn hof NL OL GL PL D).inl g = !memN hof g := rfl
theorem cxn_G (g : Nat) : (cxn hof NL OL GL PL D).G g = mapN (lookG NL g) (mapS (lookG GL g) (lookO OL g)) := rfl
theorem cxn_plan (g id : Nat) : (cxn hof NL OL GL PL D).plan g id = lookP PL g id := rfl
theorem cxn_D : (cxn hof NL OL GL PL D).D = D := rfl
theorem cxn_rs : (cxn hof NL OL GL PL D).rs = false := rfl
theorem cxn_off : (cxn hof NL OL GL PL D).off = cxn hof NL OL GL PL none := rfl
end
def AllN : List (Nat × BaseF) → Prop
  | [] => True
  | (g, b) :: l => NB Try.prog g b ∧ AllN l
theorem AllN_mem : ∀ {l : List (Nat × BaseF)}, AllN l → ∀ x ∈ l, NB Try.prog x.1 x.2
  | [], _, x, hx => by simp at hx
  | (g, b) :: l, h, x, hx => by
    rcases List.mem_cons.1 hx with rfl | hx
    · exact h.1
    · exact AllN_mem h.2 x hx
theorem cxn_ok {hof : List Nat} {NL : List (Nat × BaseF)} {OL : List (Nat × Nat × BaseF)} {GL : List (Nat × BaseF)} {PL : List (Nat × Nat × Plan)} {D : Option (List Nat)} (hN : AllN NL) (hO : AllO OL) (h : AllB GL) : CtxOk (cxn hof NL OL GL PL D) :=
  ctx0_ok tab_chk _ _ _ _ (fun g f hf args h0 p v h1 hq hp => by
    cases hn : lookG NL g with
    | some b =>
      rw [hn] at hf
      cases hf
      exact bareS_ok (AllN_mem hN _ (lookG_mem hn)) args h0 p v h1 hq hp
    | none =>
    rw [hn] at hf
    simp only [mapN] at hf
    cases hl : lookG GL g with
    | none =>
      cases hm : lookO OL g with
      | none => rw [hl, hm] at hf; cases hf
      | some x =>
        rw [hl, hm] at hf
        cases hf
        exact lendO_ok (AllO_mem hO _ (lookO_mem hm)) args h0 p v h1 hq hp
    | some b =>
      rw [hl] at hf
      cases hf
      exact lend_ok (AllB_mem h _ (lookG_mem hl)) args h0 p v h1 hq hp) (by kernel_rfl)
theorem SameD.rowD {n sz : Nat} {f f' : Nat → Nat → SV} (h : ∀ i j, i < n → j < sz → SameD (f i j) (f' i j)) : SameD (.row n sz f) (.row n sz f') := ⟨fun E w v hd => by
  cases hd with
  | row A cap g hA ho hn hc h1 hd => exact .row A cap g hA ho hn hc h1 (fun i j hi hj => (h i j hi hj).out _ _ _ (hd i j hi hj))
  | rowZ a cap => exact .rowZ a cap⟩
theorem retN (h : HS) (x v : SV) : (∃ u, Out.ret x = Out.ret u ∧ Bd 0 0 (frzT h u) ∧ SameD (frzT h u) v) = (Bd 0 0 (frzT h x) ∧ SameD (frzT h x) v) :=
  propext ⟨fun ⟨u, e, h1⟩ => by cases e; exact h1, fun h1 => ⟨x, rfl, h1⟩⟩
theorem frzT_tup (h : HS) (l : List SV) : frzT h (.tup l) = .tup (frzA h l) := rfl
theorem frzT_agg (h : HS) (l : List SV) : frzT h (.agg l) = frzF 4 h (.agg l) := rfl
theorem frzT_vec (h : HS) (a b : Nat) : frzT h (.vec a b) = frzF 4 h (.vec a b) := rfl
theorem frzT_row (h : HS) (n sz : Nat) (f : Nat → Nat → SV) : frzT h (.row n sz f) = .row n sz f := rfl
theorem frzT_int (h : HS) (k : IntKind) (n : Int) : frzT h (.int k n) = .int k n := rfl
theorem frzT_bool (h : HS) (b : Bool) : frzT h (.bool b) = .bool b := rfl
end Go.Eng
end

/- Facts for reckoning the machine out, one for each case. -/
section
namespace Go.Eng
open Go Go.RowKit

def oAlloc (o : Option TI) (e : TypeId) (h : HS) : Res := match o with | some ti => rAlloc ti e h | none => .bad
def oBuildA (o : Option TI) (ti : TI) (ps : List (Nat × SV)) (h : HS) : Res := match o with | some te => rBuild ti te.size ps h | none => .bad
def oBuild (T : Nat → Option TI) (ps : List (Nat × SV)) (h : HS) : Option TI → Res
  | some ti => match ti.kind with
    | .array _ e => oBuildA (T e) ti ps h
    | _ => rBuild ti 0 ps h
  | none => .bad
def oBuildSl2 (o : Option TI) (e len : Nat) (ps : List (Nat × SV)) (h : HS) : Res := match o with | some te => rBuildSlice e te len ps h | none => .bad
def oBuildSl (T : Nat → Option TI) (len : Nat) (ps : List (Nat × SV)) (h : HS) : Option TI → Res
  | some { kind := .slice e, .. } => oBuildSl2 (T e) e len ps h
  | _ => .bad
def oLoad (o : Option TI) (h : HS) (x : SV) : Res := match o with | some ti => rLoad ti h x | none => .bad
def oStore (T : Nat → Option TI) (o : Option TI) (h : HS) (x : SV) (b : Bool) (y : SV) : Res := match o with | some ti => rStoreN T h ti x b y | none => .bad
def oConv (o o' : Option TI) (x : SV) (h : HS) : Res := match o, o' with | some _, some td => rConv td x h | _, _ => .bad
def oIface (o : Option TI) (ty : TypeId) (x : SV) (h : HS) : Res := match o with | some ti => rIface ti ty x h | none => .bad
def oSlice2 (o : Option TI) (ti : TI) (g : Bool) (x : SV) (lo hi mx : Option SV) (h : HS) : Res := match o with | some te => rSl te ti g x lo hi mx h | none => .bad
def oSliceA (o : Option TI) (n : Nat) (x : SV) (lo hi mx : Option SV) (h : HS) : Res := match o with | some te => rSlA n te x lo hi mx h | none => .bad
def oSlice (T : Nat → Option TI) (g : Bool) (x : SV) (lo hi mx : Option SV) (h : HS) : Option TI → Res
  | some ti => match ti.kind with
    | .slice e => oSlice2 (T e) ti g x lo hi mx h
    | .array n e => oSliceA (T e) n x lo hi mx h
    | _ => .bad
  | none => .bad
def oIdxA (o : Option TI) (n : Nat) (x y : SV) (h : HS) : Res := match o with | some te => rIdx n te x y h | none => .bad
def oIdx (T : Nat → Option TI) (x y : SV) (h : HS) : Option TI → Res
  | some ti => match ti.kind with
    | .array n e => oIdxA (T e) n x y h
    | _ => .bad
  | none => .bad
def slA (nm off n : Nat) (te : TI) (h : HS) : Option Int → Res
  | some u => .val (te.size = 1 ∧ 0 ≤ u ∧ u ≤ (n : Int)) (.bsl nm off u.toNat) h
  | none => .bad
def oCopy2 (o : Option TI) (d s : SV) (h : HS) : Res := match o with | some te => rCopy te d s h | none => .bad
def oCopy (T : Nat → Option TI) (d s : SV) (h : HS) : Option TI → Res
  | some { kind := .slice e, .. } => oCopy2 (T e) d s h
  | _ => .bad
def oMake2 (o : Option TI) (e : Nat) (l c : SV) (h : HS) : Res := match o with | some te => rMake e te l c h | none => .bad
def oMake (T : Nat → Option TI) (l c : SV) (h : HS) : Option TI → Res
  | some { kind := .slice e, .. } => oMake2 (T e) e l c h
  | _ => .bad
def oField (o : Option TI) (h : HS) (x : SV) (k : Nat) : Res := match o with | some ti => rField ti h x k | none => .bad
def oIndex2 (o : Option TI) (ti : TI) (h : HS) (x y : SV) : Res := match o with | some te => rIndex ti te.size h x y | none => .bad
def oIndex (T : Nat → Option TI) (h : HS) (x y : SV) : Option TI → Res
  | some ti => match ti.kind with
    | .slice e => oIndex2 (T e) ti h x y
    | .array _ e => oIndex2 (T e) ti h x y
    | _ => .bad
  | none => .bad
def oAssert (o : Option TI) (ty : TypeId) (x : SV) (ok : Bool) (h : HS) : Res := match o with | some ti => rAssert ti ty x ok h | none => .bad
def bLoad (ti : TI) (h : HS) (off : Nat) : Blk → Res
  | .live _ cells => .val (off + ti.size ≤ lenS cells) (ofCells ti.agg ti.size cells off) h
  | _ => .bad
def vLoad (ti : TI) (h : HS) (ver sz i off : Nat) : Vc → Res
  | .live ver' _ sz' n f => .val (ver = ver' ∧ sz = sz' ∧ i < n ∧ off + ti.size ≤ sz) (if ti.agg then .agg (cellsF (fun j => f i (off + j)) ti.size 0) else f i off) h
  | .dead => .bad
theorem opRes_move (T : Nat → Option TI) (F : Nat → Bool) (t : List SV) (h : HS) (dst : Option Nat) (ty : TypeId) (pos : String) (aft : Array Edge) (g : Option (Nat × Bool)) (x : Operand) : opRes T F t h ⟨dst, .move x, ty, pos, aft, g⟩ = rMove T t h ty x := rfl
theorem opRes_assign (T : Nat → Option TI) (F : Nat → Bool) (t : List SV) (h : HS) (dst : Option Nat) (ty : TypeId) (pos : String) (aft : Array Edge) (g : Option (Nat × Bool)) (x : Operand) : opRes T F t h ⟨dst, .assign x, ty, pos, aft, g⟩ = rMove T t h ty x := rfl
theorem opRes_pick (T : Nat → Option TI) (F : Nat → Bool) (t : List SV) (h : HS) (dst : Option Nat) (ty : TypeId) (pos : String) (aft : Array Edge) (g : Option (Nat × Bool)) (c a b : Operand) : opRes T F t h ⟨dst, .pick c a b, ty, pos, aft, g⟩ = rPick h (ev t c) (ev t a) (ev t b) := rfl
theorem opRes_alloc (T : Nat → Option TI) (F : Nat → Bool) (t : List SV) (h : HS) (dst : Option Nat) (ty : TypeId) (pos : String) (aft : Array Edge) (g : Option (Nat × Bool)) (e : TypeId) : opRes T F t h ⟨dst, .alloc e, ty, pos, aft, g⟩ = oAlloc (T e) e h := rfl
theorem opRes_box (T : Nat → Option TI) (F : Nat → Bool) (t : List SV) (h : HS) (dst : Option Nat) (ty : TypeId) (pos : String) (aft : Array Edge) (g : Option (Nat × Bool)) (e : TypeId) (x : Operand) : opRes T F t h ⟨dst, .box e x, ty, pos, aft, g⟩ = rBoxO h (T e) e (ev t x) := rfl
theorem opRes_build (T : Nat → Option TI) (F : Nat → Bool) (t : List SV) (h : HS) (dst : Option Nat) (ty : TypeId) (pos : String) (aft : Array Edge) (g : Option (Nat × Bool)) (e : TypeId) (ps : Array (Nat × Operand)) : opRes T F t h ⟨dst, .build e ps, ty, pos, aft, g⟩ = oBuild T (evP t ps.toList) h (T e) := rfl
theorem opRes_buildSlice (T : Nat → Option TI) (F : Nat → Bool) (t : List SV) (h : HS) (dst : Option Nat) (ty : TypeId) (pos : String) (aft : Array Edge) (g : Option (Nat × Bool)) (e : TypeId) (len : Nat) (ps : Array (Nat × Operand)) : opRes T F t h ⟨dst, .buildSlice e len ps, ty, pos, aft, g⟩ = oBuildSl T len (evP t ps.toList) h (T e) := rfl
theorem opRes_load (T : Nat → Option TI) (F : Nat → Bool) (t : List SV) (h : HS) (dst : Option Nat) (ty : TypeId) (pos : String) (aft : Array Edge) (g : Option (Nat × Bool)) (e : TypeId) (x : Operand) : opRes T F t h ⟨dst, .load e x, ty, pos, aft, g⟩ = oLoad (T e) h (ev t x) := rfl
theorem opRes_store (T : Nat → Option TI) (F : Nat → Bool) (t : List SV) (h : HS) (dst : Option Nat) (ty : TypeId) (pos : String) (aft : Array Edge) (g : Option (Nat × Bool)) (e : TypeId) (x y : Operand) : opRes T F t h ⟨dst, .store e x y, ty, pos, aft, g⟩ = oStore T (T e) h (ev t x) (isNilSl y) (ev t y) := rfl
theorem opRes_nilCheck (T : Nat → Option TI) (F : Nat → Bool) (t : List SV) (h : HS) (dst : Option Nat) (ty : TypeId) (pos : String) (aft : Array Edge) (g : Option (Nat × Bool)) (x : Operand) : opRes T F t h ⟨dst, .nilCheck x, ty, pos, aft, g⟩ = rNil h (ev t x) := rfl
theorem opRes_binOp (T : Nat → Option TI) (F : Nat → Bool) (t : List SV) (h : HS) (dst : Option Nat) (ty : TypeId) (pos : String) (aft : Array Edge) (g : Option (Nat × Bool)) (o : BinOp) (e : TypeId) (x y : Operand) (e2 : TypeId) : opRes T F t h ⟨dst, .binOp o e x y e2, ty, pos, aft, g⟩ = rBin3 (T e) (isConst x || isConst y) o (isNilSl y) (ev t x) (ev t y) h := rfl
theorem opRes_unOp (T : Nat → Option TI) (F : Nat → Bool) (t : List SV) (h : HS) (dst : Option Nat) (ty : TypeId) (pos : String) (aft : Array Edge) (g : Option (Nat × Bool)) (o : UnOp) (e : TypeId) (x : Operand) : opRes T F t h ⟨dst, .unOp o e x, ty, pos, aft, g⟩ = rUn o (ev t x) h := rfl
theorem opRes_convert (T : Nat → Option TI) (F : Nat → Bool) (t : List SV) (h : HS) (dst : Option Nat) (ty : TypeId) (pos : String) (aft : Array Edge) (g : Option (Nat × Bool)) (s d : TypeId) (x : Operand) : opRes T F t h ⟨dst, .convert s d x, ty, pos, aft, g⟩ = oConv (T s) (T d) (ev t x) h := rfl
theorem opRes_makeInterface (T : Nat → Option TI) (F : Nat → Bool) (t : List SV) (h : HS) (dst : Option Nat) (ty : TypeId) (pos : String) (aft : Array Edge) (g : Option (Nat × Bool)) (e : TypeId) (x : Operand) : opRes T F t h ⟨dst, .makeInterface e x, ty, pos, aft, g⟩ = oIface (T e) e (ev t x) h := rfl
theorem opRes_makeFunc (T : Nat → Option TI) (F : Nat → Bool) (t : List SV) (h : HS) (dst : Option Nat) (ty : TypeId) (pos : String) (aft : Array Edge) (g : Option (Nat × Bool)) (fn : Fn) (first caps : Array Operand) : opRes T F t h ⟨dst, .makeFunc fn first caps, ty, pos, aft, g⟩ = rFunc h fn (evL t first.toList) (evL t caps.toList) := rfl
theorem opRes_slice (T : Nat → Option TI) (F : Nat → Bool) (t : List SV) (h : HS) (dst : Option Nat) (ty : TypeId) (pos : String) (aft : Array Edge) (g : Option (Nat × Bool)) (e : TypeId) (x : Operand) (lo hi mx : Option Operand) : opRes T F t h ⟨dst, .slice e x lo hi mx, ty, pos, aft, g⟩ = oSlice T (hiOk hi mx) (ev t x) (evO t lo) (evO t hi) (evO t mx) h (T e) := rfl
theorem opRes_makeSlice (T : Nat → Option TI) (F : Nat → Bool) (t : List SV) (h : HS) (dst : Option Nat) (ty : TypeId) (pos : String) (aft : Array Edge) (g : Option (Nat × Bool)) (e : TypeId) (l c : Operand) : opRes T F t h ⟨dst, .makeSlice e l c, ty, pos, aft, g⟩ = oMake T (ev t l) (ev t c) h (T e) := rfl
theorem opRes_fieldAddr (T : Nat → Option TI) (F : Nat → Bool) (t : List SV) (h : HS) (dst : Option Nat) (ty : TypeId) (pos : String) (aft : Array Edge) (g : Option (Nat × Bool)) (e : TypeId) (x : Operand) (k : Nat) : opRes T F t h ⟨dst, .fieldAddr e x k, ty, pos, aft, g⟩ = oField (T e) h (ev t x) k := rfl
theorem opRes_indexAddr (T : Nat → Option TI) (F : Nat → Bool) (t : List SV) (h : HS) (dst : Option Nat) (ty : TypeId) (pos : String) (aft : Array Edge) (g : Option (Nat × Bool)) (e : TypeId) (x y : Operand) : opRes T F t h ⟨dst, .indexAddr e x y, ty, pos, aft, g⟩ = oIndex T h (ev t x) (ev t y) (T e) := rfl
theorem opRes_typeAssert (T : Nat → Option TI) (F : Nat → Bool) (t : List SV) (h : HS) (dst : Option Nat) (ty : TypeId) (pos : String) (aft : Array Edge) (g : Option (Nat × Bool)) (x : Operand) (xt e : TypeId) (ok : Bool) : opRes T F t h ⟨dst, .typeAssert x xt e ok, ty, pos, aft, g⟩ = oAssert (T e) e (ev t x) ok h := rfl
theorem opRes_extract (T : Nat → Option TI) (F : Nat → Bool) (t : List SV) (h : HS) (dst : Option Nat) (ty : TypeId) (pos : String) (aft : Array Edge) (g : Option (Nat × Bool)) (x : Operand) (k : Nat) : opRes T F t h ⟨dst, .extract x k, ty, pos, aft, g⟩ = rExtract (ev t x) k h := rfl
theorem opRes_call (T : Nat → Option TI) (F : Nat → Bool) (t : List SV) (h : HS) (dst : Option Nat) (ty : TypeId) (pos : String) (aft : Array Edge) (g : Option (Nat × Bool)) (f : Operand) (args : Array Operand) (tys : Array TypeId) : opRes T F t h ⟨dst, .call ⟨.value f, args, tys⟩, ty, pos, aft, g⟩ = rCallN F h (lastN T args.toList tys.toList) (ev t f) (argsN T t (lastN T args.toList tys.toList) args.toList tys.toList) := rfl
theorem opRes_callB (T : Nat → Option TI) (F : Nat → Bool) (t : List SV) (h : HS) (dst : Option Nat) (ty : TypeId) (pos : String) (aft : Array Edge) (g : Option (Nat × Bool)) (f : Builtin) (args : Array Operand) (tys : Array TypeId) : opRes T F t h ⟨dst, .call ⟨.builtin f, args, tys⟩, ty, pos, aft, g⟩ = rBuiltin T h f tys.toList (evL t args.toList) := rfl
theorem opRes_panic (T : Nat → Option TI) (F : Nat → Bool) (t : List SV) (h : HS) (dst : Option Nat) (ty : TypeId) (pos : String) (aft : Array Edge) (g : Option (Nat × Bool)) (x : Operand) : opRes T F t h ⟨dst, .panic x, ty, pos, aft, g⟩ = rPanic (ev t x) := rfl
theorem opRes_defer (T : Nat → Option TI) (F : Nat → Bool) (t : List SV) (h : HS) (dst : Option Nat) (ty : TypeId) (pos : String) (aft : Array Edge) (g : Option (Nat × Bool)) (c : Call) : opRes T F t h ⟨dst, .defer c, ty, pos, aft, g⟩ = .bad := rfl
theorem opRes_makeMap (T : Nat → Option TI) (F : Nat → Bool) (t : List SV) (h : HS) (dst : Option Nat) (ty : TypeId) (pos : String) (aft : Array Edge) (g : Option (Nat × Bool)) (e : TypeId) : opRes T F t h ⟨dst, .makeMap e none, ty, pos, aft, g⟩ = mMk T h (T e) := rfl
theorem opRes_lookup (T : Nat → Option TI) (F : Nat → Bool) (t : List SV) (h : HS) (dst : Option Nat) (ty : TypeId) (pos : String) (aft : Array Edge) (g : Option (Nat × Bool)) (e : TypeId) (x y : Operand) (ok : Bool) : opRes T F t h ⟨dst, .lookup e x y ok, ty, pos, aft, g⟩ = mLk T ok (ev t x) (ev t y) h (T e) := rfl
theorem opRes_mapUpdate (T : Nat → Option TI) (F : Nat → Bool) (t : List SV) (h : HS) (dst : Option Nat) (ty : TypeId) (pos : String) (aft : Array Edge) (g : Option (Nat × Bool)) (e : TypeId) (x y z : Operand) : opRes T F t h ⟨dst, .mapUpdate e x y z, ty, pos, aft, g⟩ = mUp T (ev t x) (ev t y) (ev t z) h (T e) := rfl
theorem opRes_insert (T : Nat → Option TI) (F : Nat → Bool) (t : List SV) (h : HS) (dst : Option Nat) (ty : TypeId) (pos : String) (aft : Array Edge) (g : Option (Nat × Bool)) (e : TypeId) (x y z : Operand) : opRes T F t h ⟨dst, .insert e x y z, ty, pos, aft, g⟩ = mUp T (ev t x) (ev t y) (ev t z) h (T e) := rfl
theorem opRes_field (T : Nat → Option TI) (F : Nat → Bool) (t : List SV) (h : HS) (dst : Option Nat) (ty : TypeId) (pos : String) (aft : Array Edge) (g : Option (Nat × Bool)) (e : TypeId) (x : Operand) (k : Nat) : opRes T F t h ⟨dst, .field e x k, ty, pos, aft, g⟩ = mFd (ev t x) k h (T e) := rfl
theorem opRes_index (T : Nat → Option TI) (F : Nat → Bool) (t : List SV) (h : HS) (dst : Option Nat) (ty : TypeId) (pos : String) (aft : Array Edge) (g : Option (Nat × Bool)) (e : TypeId) (x y : Operand) : opRes T F t h ⟨dst, .index e x y, ty, pos, aft, g⟩ = oIdx T (ev t x) (ev t y) h (T e) := rfl
theorem mMk_m (T : Nat → Option TI) (h : HS) (k v : Nat) (agg ifc : Bool) (size bytes : Nat) (zero : List ZC) (eq : Option (List LK)) (fag : List Bool) : mMk T h (some ⟨.map k v, agg, ifc, size, bytes, zero, eq, fag⟩) = mMk2 k v h (T k) (T v) := rfl
theorem mLk_m (T : Nat → Option TI) (ok : Bool) (x y : SV) (h : HS) (k v : Nat) (agg ifc : Bool) (size bytes : Nat) (zero : List ZC) (eq : Option (List LK)) (fag : List Bool) : mLk T ok x y h (some ⟨.map k v, agg, ifc, size, bytes, zero, eq, fag⟩) = mLk2 ok x y h (T k) (T v) := rfl
theorem mUp_m (T : Nat → Option TI) (x y z : SV) (h : HS) (k v : Nat) (agg ifc : Bool) (size bytes : Nat) (zero : List ZC) (eq : Option (List LK)) (fag : List Bool) : mUp T x y z h (some ⟨.map k v, agg, ifc, size, bytes, zero, eq, fag⟩) = mUp2 x y z h (T k) := rfl
theorem rLookup_m (tk tv : TI) (ok : Bool) (nm : Nat) (y : SV) (h : HS) : rLookup tk tv ok (.mapp nm) y h = rLookB ok (keyKs tk) (valKs tv.zero) tv.agg y h (getB h.blks nm) := rfl
theorem rUpdate_m (tk : TI) (nm : Nat) (y z : SV) (h : HS) : rUpdate tk (.mapp nm) y z h = rUpdB nm (keyKs tk) y z h (getB h.blks nm) := rfl
theorem keyKs_i (ifc : Bool) (size bytes : Nat) (zero : List ZC) (eq : Option (List LK)) (fag : List Bool) : keyKs ⟨.int .i64, false, ifc, size, bytes, zero, eq, fag⟩ = some (false, [.i]) := rfl
theorem keyKs_a (kind : TK) (ifc : Bool) (size bytes : Nat) (zero : List ZC) (ks : List LK) (fag : List Bool) : keyKs ⟨kind, true, ifc, size, bytes, zero, some ks, fag⟩ = if isI ks then some (true, ks) else none := rfl
def fldO (fag : List Bool) (k : Nat) (x : SV) (h : HS) : Option (Nat × Nat) → Res
  | some (o, s) => match x with
    | .agg l => .val (o + s ≤ lenS l) (if gtB fag k then .agg (takeN s (dropN o l)) else nth l o) h
    | _ => .bad
  | none => .bad
theorem rFld_s (offs : List (Nat × Nat)) (agg ifc : Bool) (size bytes : Nat) (zero : List ZC) (eq : Option (List LK)) (fag : List Bool) (x : SV) (k : Nat) (h : HS) : rFld ⟨.struct offs, agg, ifc, size, bytes, zero, eq, fag⟩ x k h = fldO fag k x h (nthO offs k) := rfl
theorem fldO_s (fag : List Bool) (k : Nat) (l : List SV) (h : HS) (o s : Nat) : fldO fag k (.agg l) h (some (o, s)) = .val (o + s ≤ lenS l) (if gtB fag k then .agg (takeN s (dropN o l)) else nth l o) h := rfl
def mLen (h : HS) : Blk → Res
  | .mp m => lenI m.es h m.it
  | _ => .bad
theorem rLen_m (k v : Nat) (agg ifc : Bool) (size bytes : Nat) (zero : List ZC) (eq : Option (List LK)) (fag : List Bool) (h : HS) (nm : Nat) : rLen ⟨.map k v, agg, ifc, size, bytes, zero, eq, fag⟩ h (.mapp nm) = mLen h (getB h.blks nm) := rfl
theorem oBuild_a (T : Nat → Option TI) (ps : List (Nat × SV)) (h : HS) (n e : Nat) (agg ifc : Bool) (size bytes : Nat) (zero : List ZC) (eq : Option (List LK)) (fag : List Bool) : oBuild T ps h (some ⟨.array n e, agg, ifc, size, bytes, zero, eq, fag⟩) = oBuildA (T e) ⟨.array n e, agg, ifc, size, bytes, zero, eq, fag⟩ ps h := rfl
theorem oBuild_s (T : Nat → Option TI) (ps : List (Nat × SV)) (h : HS) (o : List (Nat × Nat)) (agg ifc : Bool) (size bytes : Nat) (zero : List ZC) (eq : Option (List LK)) (fag : List Bool) : oBuild T ps h (some ⟨.struct o, agg, ifc, size, bytes, zero, eq, fag⟩) = rBuild ⟨.struct o, agg, ifc, size, bytes, zero, eq, fag⟩ 0 ps h := rfl
theorem rBuild_a (se : Nat) (ps : List (Nat × SV)) (h : HS) (n e : Nat) (agg ifc : Bool) (size bytes : Nat) (zero : List ZC) (eq : Option (List LK)) (fag : List Bool) : rBuild ⟨.array n e, agg, ifc, size, bytes, zero, eq, fag⟩ se ps h = fin2 (fillS (placeA se) ps (zcs zero)) h := rfl
theorem rBuild_s (se : Nat) (ps : List (Nat × SV)) (h : HS) (o : List (Nat × Nat)) (agg ifc : Bool) (size bytes : Nat) (zero : List ZC) (eq : Option (List LK)) (fag : List Bool) : rBuild ⟨.struct o, agg, ifc, size, bytes, zero, eq, fag⟩ se ps h = fin2 (fillS (placeS o) ps (zcs zero)) h := rfl
theorem oSlice_s (T : Nat → Option TI) (g : Bool) (x : SV) (lo hi mx : Option SV) (h : HS) (e : Nat) (agg ifc : Bool) (size bytes : Nat) (zero : List ZC) (eq : Option (List LK)) (fag : List Bool) : oSlice T g x lo hi mx h (some ⟨.slice e, agg, ifc, size, bytes, zero, eq, fag⟩) = oSlice2 (T e) ⟨.slice e, agg, ifc, size, bytes, zero, eq, fag⟩ g x lo hi mx h := rfl
theorem oSlice_a (T : Nat → Option TI) (g : Bool) (x : SV) (lo hi mx : Option SV) (h : HS) (n e : Nat) (agg ifc : Bool) (size bytes : Nat) (zero : List ZC) (eq : Option (List LK)) (fag : List Bool) : oSlice T g x lo hi mx h (some ⟨.array n e, agg, ifc, size, bytes, zero, eq, fag⟩) = oSliceA (T e) n x lo hi mx h := rfl
theorem oIdx_a (T : Nat → Option TI) (x y : SV) (h : HS) (n e : Nat) (agg ifc : Bool) (size bytes : Nat) (zero : List ZC) (eq : Option (List LK)) (fag : List Bool) : oIdx T x y h (some ⟨.array n e, agg, ifc, size, bytes, zero, eq, fag⟩) = oIdxA (T e) n x y h := rfl
theorem rSlA_p (n : Nat) (te : TI) (nm off : Nat) (hi : Option SV) (h : HS) : rSlA n te (.ptr nm off) none hi none h = slA nm off n te h (intO (n : Int) hi) := rfl
theorem rIdx_a (n : Nat) (kind : TK) (ifc : Bool) (size bytes : Nat) (zero : List ZC) (eq : Option (List LK)) (fag : List Bool) (l : List SV) (k : IntKind) (i : Int) (h : HS) : rIdx n ⟨kind, false, ifc, size, bytes, zero, eq, fag⟩ (.agg l) (.int k i) h = .val (0 ≤ i ∧ i < (n : Int) ∧ i.toNat < lenS l ∧ size = 1) (nth l i.toNat) h := rfl
theorem rBuiltin_copy (T : Nat → Option TI) (h : HS) (ty ty2 : TypeId) (d s : SV) : rBuiltin T h .copy [ty, ty2] [d, s] = oCopy T d s h (T ty) := rfl
theorem oCopy_s (T : Nat → Option TI) (d s : SV) (h : HS) (e : Nat) (agg ifc : Bool) (size bytes : Nat) (zero : List ZC) (eq : Option (List LK)) (fag : List Bool) : oCopy T d s h (some ⟨.slice e, agg, ifc, size, bytes, zero, eq, fag⟩) = oCopy2 (T e) d s h := rfl
theorem rNil_be (h : HS) (e : Nat) (agg ifc : Bool) (size bytes : Nat) (zero : List ZC) (eq : Option (List LK)) (fag : List Bool) (a b c : Nat) : rEqNil (some ⟨.slice e, agg, ifc, size, bytes, zero, eq, fag⟩) .eql (.bsl a b c) h = .val True (.bool false) h := rfl
theorem rNil_bn (h : HS) (e : Nat) (agg ifc : Bool) (size bytes : Nat) (zero : List ZC) (eq : Option (List LK)) (fag : List Bool) (a b c : Nat) : rEqNil (some ⟨.slice e, agg, ifc, size, bytes, zero, eq, fag⟩) .neq (.bsl a b c) h = .val True (.bool true) h := rfl
def rBoxB (h : HS) (e : TypeId) (y : SV) : Bool → Res
  | true => rBox e (ownC y h).1 (ownC y h).2
  | false => rBox e y h
def ownM (x : SV) (l : List SV) (h : HS) : Option (Nat × Nat) → List SV × HS
  | some (e, sz) => (.vec (lenV h.vecs) 0 :: (ownN l { h with vecs := snocV h.vecs (.live 0 e sz 0 (fun _ _ => .any)) }).1, (ownN l { h with vecs := snocV h.vecs (.live 0 e sz 0 (fun _ _ => .any)) }).2)
  | none => (x :: (ownN l h).1, (ownN l h).2)
def dnlM (x : SV) : Option (Nat × Nat) → SV
  | some (_, sz) => .row 0 sz (fun _ _ => .any)
  | none => x
theorem rBoxO_s (h : HS) (ti : TI) (e : TypeId) (y : SV) : rBoxO h (some ti) e y = rBoxB h e y (hasSl ti.zero) := by simp only [rBoxO]; cases hasSl ti.zero <;> rfl
theorem rBoxO_n (h : HS) (e : TypeId) (y : SV) : rBoxO h none e y = rBox e y h := rfl
theorem ownN_c (x : SV) (l : List SV) (h : HS) : ownN (x :: l) h = ownM x l h (isN x) := by simp only [ownN]; cases isN x <;> rfl
theorem dnl1_c (x : SV) : dnl1 x = dnlM x (isN x) := by simp only [dnl1]; cases isN x <;> rfl
theorem isN_any  : isN SV.any = none := rfl
theorem ownC_any  (h : HS) : ownC SV.any h = (SV.any, h) := rfl
theorem ownS_any  (h : HS) : ownS SV.any h = ownC SV.any h := rfl
theorem dnl_any  : dnl SV.any = dnl1 SV.any := rfl
theorem isN_int  (k : IntKind) (n : Int) : isN (SV.int k n) = none := rfl
theorem ownC_int  (k : IntKind) (n : Int) (h : HS) : ownC (SV.int k n) h = ((SV.int k n), h) := rfl
theorem ownS_int  (k : IntKind) (n : Int) (h : HS) : ownS (SV.int k n) h = ownC (SV.int k n) h := rfl
theorem dnl_int  (k : IntKind) (n : Int) : dnl (SV.int k n) = dnl1 (SV.int k n) := rfl
theorem isN_bool  (b : Bool) : isN (SV.bool b) = none := rfl
theorem ownC_bool  (b : Bool) (h : HS) : ownC (SV.bool b) h = ((SV.bool b), h) := rfl
theorem ownS_bool  (b : Bool) (h : HS) : ownS (SV.bool b) h = ownC (SV.bool b) h := rfl
theorem dnl_bool  (b : Bool) : dnl (SV.bool b) = dnl1 (SV.bool b) := rfl
theorem isN_str  (s : ByteArray) : isN (SV.str s) = none := rfl
theorem ownC_str  (s : ByteArray) (h : HS) : ownC (SV.str s) h = ((SV.str s), h) := rfl
theorem ownS_str  (s : ByteArray) (h : HS) : ownS (SV.str s) h = ownC (SV.str s) h := rfl
theorem dnl_str  (s : ByteArray) : dnl (SV.str s) = dnl1 (SV.str s) := rfl
theorem isN_ptr  (nm : Nat) (off : Nat) : isN (SV.ptr nm off) = none := rfl
theorem ownC_ptr  (nm : Nat) (off : Nat) (h : HS) : ownC (SV.ptr nm off) h = ((SV.ptr nm off), h) := rfl
theorem ownS_ptr  (nm : Nat) (off : Nat) (h : HS) : ownS (SV.ptr nm off) h = ownC (SV.ptr nm off) h := rfl
theorem dnl_ptr  (nm : Nat) (off : Nat) : dnl (SV.ptr nm off) = dnl1 (SV.ptr nm off) := rfl
theorem isN_nilp  : isN SV.nilp = none := rfl
theorem ownC_nilp  (h : HS) : ownC SV.nilp h = (SV.nilp, h) := rfl
theorem ownS_nilp  (h : HS) : ownS SV.nilp h = ownC SV.nilp h := rfl
theorem dnl_nilp  : dnl SV.nilp = dnl1 SV.nilp := rfl
theorem isN_nils  (ety : Nat) (nsz : Nat) : isN (SV.nils ety nsz) = some (ety, nsz) := rfl
theorem ownS_nils  (ety : Nat) (nsz : Nat) (h : HS) : ownS (SV.nils ety nsz) h = ownC (SV.nils ety nsz) h := rfl
theorem dnl_nils  (ety : Nat) (nsz : Nat) : dnl (SV.nils ety nsz) = dnl1 (SV.nils ety nsz) := rfl
theorem isN_rptr  (sz : Nat) (f : Nat → SV) : isN (SV.rptr sz f) = none := rfl
theorem ownC_rptr  (sz : Nat) (f : Nat → SV) (h : HS) : ownC (SV.rptr sz f) h = ((SV.rptr sz f), h) := rfl
theorem ownS_rptr  (sz : Nat) (f : Nat → SV) (h : HS) : ownS (SV.rptr sz f) h = ownC (SV.rptr sz f) h := rfl
theorem dnl_rptr  (sz : Nat) (f : Nat → SV) : dnl (SV.rptr sz f) = dnl1 (SV.rptr sz f) := rfl
theorem isN_row  (n : Nat) (sz : Nat) (f : Nat → Nat → SV) : isN (SV.row n sz f) = none := rfl
theorem ownC_row  (n : Nat) (sz : Nat) (f : Nat → Nat → SV) (h : HS) : ownC (SV.row n sz f) h = ((SV.row n sz f), h) := rfl
theorem ownS_row  (n : Nat) (sz : Nat) (f : Nat → Nat → SV) (h : HS) : ownS (SV.row n sz f) h = ownC (SV.row n sz f) h := rfl
theorem dnl_row  (n : Nat) (sz : Nat) (f : Nat → Nat → SV) : dnl (SV.row n sz f) = dnl1 (SV.row n sz f) := rfl
theorem isN_vec  (id : Nat) (ver : Nat) : isN (SV.vec id ver) = none := rfl
theorem ownC_vec  (id : Nat) (ver : Nat) (h : HS) : ownC (SV.vec id ver) h = ((SV.vec id ver), h) := rfl
theorem ownS_vec  (id : Nat) (ver : Nat) (h : HS) : ownS (SV.vec id ver) h = ownC (SV.vec id ver) h := rfl
theorem dnl_vec  (id : Nat) (ver : Nat) : dnl (SV.vec id ver) = dnl1 (SV.vec id ver) := rfl
theorem isN_vptr  (id : Nat) (ver : Nat) (sz : Nat) (i : Nat) (off : Nat) : isN (SV.vptr id ver sz i off) = none := rfl
theorem ownC_vptr  (id : Nat) (ver : Nat) (sz : Nat) (i : Nat) (off : Nat) (h : HS) : ownC (SV.vptr id ver sz i off) h = ((SV.vptr id ver sz i off), h) := rfl
theorem ownS_vptr  (id : Nat) (ver : Nat) (sz : Nat) (i : Nat) (off : Nat) (h : HS) : ownS (SV.vptr id ver sz i off) h = ownC (SV.vptr id ver sz i off) h := rfl
theorem dnl_vptr  (id : Nat) (ver : Nat) (sz : Nat) (i : Nat) (off : Nat) : dnl (SV.vptr id ver sz i off) = dnl1 (SV.vptr id ver sz i off) := rfl
theorem isN_func  (g : Nat) (caps : List SV) : isN (SV.func g caps) = none := rfl
theorem ownC_func  (g : Nat) (caps : List SV) (h : HS) : ownC (SV.func g caps) h = ((SV.func g caps), h) := rfl
theorem ownS_func  (g : Nat) (caps : List SV) (h : HS) : ownS (SV.func g caps) h = ownC (SV.func g caps) h := rfl
theorem dnl_func  (g : Nat) (caps : List SV) : dnl (SV.func g caps) = dnl1 (SV.func g caps) := rfl
theorem isN_nilf  : isN SV.nilf = none := rfl
theorem ownC_nilf  (h : HS) : ownC SV.nilf h = (SV.nilf, h) := rfl
theorem ownS_nilf  (h : HS) : ownS SV.nilf h = ownC SV.nilf h := rfl
theorem dnl_nilf  : dnl SV.nilf = dnl1 SV.nilf := rfl
theorem isN_iface  (t : TypeId) (v : SV) : isN (SV.iface t v) = none := rfl
theorem ownC_iface  (t : TypeId) (v : SV) (h : HS) : ownC (SV.iface t v) h = ((SV.iface t v), h) := rfl
theorem ownS_iface  (t : TypeId) (v : SV) (h : HS) : ownS (SV.iface t v) h = ownC (SV.iface t v) h := rfl
theorem dnl_iface  (t : TypeId) (v : SV) : dnl (SV.iface t v) = dnl1 (SV.iface t v) := rfl
theorem isN_nili  : isN SV.nili = none := rfl
theorem ownC_nili  (h : HS) : ownC SV.nili h = (SV.nili, h) := rfl
theorem ownS_nili  (h : HS) : ownS SV.nili h = ownC SV.nili h := rfl
theorem dnl_nili  : dnl SV.nili = dnl1 SV.nili := rfl
theorem isN_agg  (l : List SV) : isN (SV.agg l) = none := rfl
theorem ownS_agg  (l : List SV) (h : HS) : ownS (SV.agg l) h = ownC (SV.agg l) h := rfl
theorem isN_tup  (l : List SV) : isN (SV.tup l) = none := rfl
theorem ownC_tup  (l : List SV) (h : HS) : ownC (SV.tup l) h = ((SV.tup l), h) := rfl
theorem ownS_tup  (l : List SV) (h : HS) : ownS (SV.tup l) h = ownC (SV.tup l) h := rfl
theorem dnl_tup  (l : List SV) : dnl (SV.tup l) = dnl1 (SV.tup l) := rfl
theorem isN_yield  (nm : Nat) : isN (SV.yield nm) = none := rfl
theorem ownC_yield  (nm : Nat) (h : HS) : ownC (SV.yield nm) h = ((SV.yield nm), h) := rfl
theorem ownS_yield  (nm : Nat) (h : HS) : ownS (SV.yield nm) h = ownC (SV.yield nm) h := rfl
theorem dnl_yield  (nm : Nat) : dnl (SV.yield nm) = dnl1 (SV.yield nm) := rfl
theorem isN_meth  (g : Nat) (first : List SV) : isN (SV.meth g first) = none := rfl
theorem ownC_meth  (g : Nat) (first : List SV) (h : HS) : ownC (SV.meth g first) h = ((SV.meth g first), h) := rfl
theorem ownS_meth  (g : Nat) (first : List SV) (h : HS) : ownS (SV.meth g first) h = ownC (SV.meth g first) h := rfl
theorem dnl_meth  (g : Nat) (first : List SV) : dnl (SV.meth g first) = dnl1 (SV.meth g first) := rfl
theorem isN_vcut  (id : Nat) (ver : Nat) (sz : Nat) (lo : Nat) (n : Nat) (x1 : Bool) : isN (SV.vcut id ver sz lo n x1) = none := rfl
theorem ownC_vcut  (id : Nat) (ver : Nat) (sz : Nat) (lo : Nat) (n : Nat) (x1 : Bool) (h : HS) : ownC (SV.vcut id ver sz lo n x1) h = ((SV.vcut id ver sz lo n x1), h) := rfl
theorem dnl_vcut  (id : Nat) (ver : Nat) (sz : Nat) (lo : Nat) (n : Nat) (x1 : Bool) : dnl (SV.vcut id ver sz lo n x1) = dnl1 (SV.vcut id ver sz lo n x1) := rfl
theorem isN_bsl  (nm : Nat) (off : Nat) (n : Nat) : isN (SV.bsl nm off n) = none := rfl
theorem ownC_bsl  (nm : Nat) (off : Nat) (n : Nat) (h : HS) : ownC (SV.bsl nm off n) h = ((SV.bsl nm off n), h) := rfl
theorem ownS_bsl  (nm : Nat) (off : Nat) (n : Nat) (h : HS) : ownS (SV.bsl nm off n) h = ownC (SV.bsl nm off n) h := rfl
theorem dnl_bsl  (nm : Nat) (off : Nat) (n : Nat) : dnl (SV.bsl nm off n) = dnl1 (SV.bsl nm off n) := rfl
theorem isN_mapp  (nm : Nat) : isN (SV.mapp nm) = none := rfl
theorem ownC_mapp  (nm : Nat) (h : HS) : ownC (SV.mapp nm) h = ((SV.mapp nm), h) := rfl
theorem ownS_mapp  (nm : Nat) (h : HS) : ownS (SV.mapp nm) h = ownC (SV.mapp nm) h := rfl
theorem dnl_mapp  (nm : Nat) : dnl (SV.mapp nm) = dnl1 (SV.mapp nm) := rfl
theorem ownS_vcut (id ver sz lo n : Nat) (x : Bool) (h : HS) : ownS (.vcut id ver sz lo n x) h = rebV id ver sz lo n x h (getV h.vecs id) := rfl
theorem ownC_agg (l : List SV) (h : HS) : ownC (.agg l) h = (.agg (ownN l h).1, (ownN l h).2) := rfl
theorem ownC_nils (ety nsz : Nat) (h : HS) : ownC (.nils ety nsz) h = (.vec (lenV h.vecs) 0, { h with vecs := snocV h.vecs (.live 0 ety nsz 0 (fun _ _ => .any)) }) := rfl
theorem dnl_agg (l : List SV) : dnl (.agg l) = .agg (mapF dnl1 l) := rfl
theorem frzF_nils (d : Nat) (h : HS) (ety nsz : Nat) : frzF (d + 1) h (.nils ety nsz) = .row 0 nsz (fun _ _ => .any) := rfl
theorem rLen_nils (e : Nat) (agg ifc : Bool) (size bytes : Nat) (zero : List ZC) (eq : Option (List LK)) (fag : List Bool) (h : HS) (a b : Nat) : rLen ⟨.slice e, agg, ifc, size, bytes, zero, eq, fag⟩ h (.nils a b) = .val True (.int .i64 0) h := rfl
theorem rNil_ne (h : HS) (e : Nat) (agg ifc : Bool) (size bytes : Nat) (zero : List ZC) (eq : Option (List LK)) (fag : List Bool) (a b : Nat) : rEqNil (some ⟨.slice e, agg, ifc, size, bytes, zero, eq, fag⟩) .eql (.nils a b) h = .val True (.bool true) h := rfl
theorem rNil_nn (h : HS) (e : Nat) (agg ifc : Bool) (size bytes : Nat) (zero : List ZC) (eq : Option (List LK)) (fag : List Bool) (a b : Nat) : rEqNil (some ⟨.slice e, agg, ifc, size, bytes, zero, eq, fag⟩) .neq (.nils a b) h = .val True (.bool false) h := rfl
theorem oMake_s (T : Nat → Option TI) (l c : SV) (h : HS) (e : Nat) (agg ifc : Bool) (size bytes : Nat) (zero : List ZC) (eq : Option (List LK)) (fag : List Bool) : oMake T l c h (some ⟨.slice e, agg, ifc, size, bytes, zero, eq, fag⟩) = oMake2 (T e) e l c h := rfl
theorem sliC_t (se id ver sz lo0 n : Nat) (lo hi : Option SV) (m : SV) (h : HS) : sliC se id ver sz lo0 n true lo hi (some m) h = cutR (se = sz) id ver sz lo0 n h (intO 0 lo) (intO (n : Int) hi) (some m) := rfl
theorem sliC_f (se id ver sz lo0 n : Nat) (lo hi mx : Option SV) (h : HS) : sliC se id ver sz lo0 n false lo hi mx h = cutR (se = sz) id ver sz lo0 n h (intO 0 lo) (intO (n : Int) hi) mx := rfl
def cIndex (se : Nat) (h : HS) (id ver sz lo n : Nat) (i : Int) : Vc → Res
  | .live ver' _ sz' _ _ => .val (ver = ver' ∧ sz = sz' ∧ se = sz ∧ 0 ≤ i ∧ i < (n : Int)) (.vptr id ver sz (lo + i.toNat) 0) h
  | .dead => .bad
theorem rIndex_c (e : Nat) (agg ifc : Bool) (size bytes : Nat) (zero : List ZC) (eq : Option (List LK)) (fag : List Bool) (se : Nat) (h : HS) (id ver sz lo n : Nat) (x : Bool) (k : IntKind) (i : Int) : rIndex ⟨.slice e, agg, ifc, size, bytes, zero, eq, fag⟩ se h (.vcut id ver sz lo n x) (.int k i) = cIndex se h id ver sz lo n i (getV h.vecs id) := rfl
theorem rIndex_b (e : Nat) (agg ifc : Bool) (size bytes : Nat) (zero : List ZC) (eq : Option (List LK)) (fag : List Bool) (se : Nat) (h : HS) (nm off n : Nat) (k : IntKind) (i : Int) : rIndex ⟨.slice e, agg, ifc, size, bytes, zero, eq, fag⟩ se h (.bsl nm off n) (.int k i) = .val (se = 1 ∧ 0 ≤ i ∧ i < (n : Int)) (.ptr nm (off + i.toNat)) h := rfl
theorem rLen_c (e : Nat) (agg ifc : Bool) (size bytes : Nat) (zero : List ZC) (eq : Option (List LK)) (fag : List Bool) (h : HS) (id ver sz lo n : Nat) (x : Bool) : rLen ⟨.slice e, agg, ifc, size, bytes, zero, eq, fag⟩ h (.vcut id ver sz lo n x) = .val True (.int .i64 (n : Int)) h := rfl
theorem rLen_b (e : Nat) (agg ifc : Bool) (size bytes : Nat) (zero : List ZC) (eq : Option (List LK)) (fag : List Bool) (h : HS) (nm off n : Nat) : rLen ⟨.slice e, agg, ifc, size, bytes, zero, eq, fag⟩ h (.bsl nm off n) = .val True (.int .i64 (n : Int)) h := rfl
theorem oIndex_s (T : Nat → Option TI) (h : HS) (x y : SV) (e : Nat) (agg ifc : Bool) (size bytes : Nat) (zero : List ZC) (eq : Option (List LK)) (fag : List Bool) : oIndex T h x y (some ⟨.slice e, agg, ifc, size, bytes, zero, eq, fag⟩) = oIndex2 (T e) ⟨.slice e, agg, ifc, size, bytes, zero, eq, fag⟩ h x y := rfl
theorem oIndex_a (T : Nat → Option TI) (h : HS) (x y : SV) (n e : Nat) (agg ifc : Bool) (size bytes : Nat) (zero : List ZC) (eq : Option (List LK)) (fag : List Bool) : oIndex T h x y (some ⟨.array n e, agg, ifc, size, bytes, zero, eq, fag⟩) = oIndex2 (T e) ⟨.array n e, agg, ifc, size, bytes, zero, eq, fag⟩ h x y := rfl
theorem rIndex_r (e : Nat) (agg ifc : Bool) (size bytes : Nat) (zero : List ZC) (eq : Option (List LK)) (fag : List Bool) (se : Nat) (h : HS) (n sz : Nat) (f : Nat → Nat → SV) (k : IntKind) (i : Int) : rIndex ⟨.slice e, agg, ifc, size, bytes, zero, eq, fag⟩ se h (.row n sz f) (.int k i) = .val (se = sz ∧ 0 ≤ i ∧ i < (n : Int)) (.rptr sz (f i.toNat)) h := rfl
def vIndex (se : Nat) (h : HS) (id ver : Nat) (i : Int) : Vc → Res
  | .live ver' _ sz n _ => .val (ver = ver' ∧ se = sz ∧ 0 ≤ i ∧ i < (n : Int)) (.vptr id ver sz i.toNat 0) h
  | .dead => .bad
theorem putB_c (b v : Nat → Nat) (k : Nat) (bs : List Nat) (h : List Blk) (x : Blk) (l : List Blk) : putB b v (k :: bs) h (x :: l) = putB b v bs (setB h k (renK b v x)) l := rfl
theorem putV_c (b v : Nat → Nat) (k : Nat) (vs : List Nat) (h : List Vc) (x : Vc) (l : List Vc) : putV b v (k :: vs) h (x :: l) = putV b v vs (setV h k (renC b v x)) l := rfl
theorem putB_n (b v : Nat → Nat) (h l : List Blk) : putB b v [] h l = h := rfl
theorem putV_n (b v : Nat → Nat) (h l : List Vc) : putV b v [] h l = h := rfl
theorem rIndex_v (e : Nat) (agg ifc : Bool) (size bytes : Nat) (zero : List ZC) (eq : Option (List LK)) (fag : List Bool) (se : Nat) (h : HS) (id ver : Nat) (k : IntKind) (i : Int) : rIndex ⟨.slice e, agg, ifc, size, bytes, zero, eq, fag⟩ se h (.vec id ver) (.int k i) = vIndex se h id ver i (getV h.vecs id) := rfl
theorem rIndex_a (n e : Nat) (agg ifc : Bool) (size bytes : Nat) (zero : List ZC) (eq : Option (List LK)) (fag : List Bool) (se : Nat) (h : HS) (nm off : Nat) (k : IntKind) (i : Int) : rIndex ⟨.array n e, agg, ifc, size, bytes, zero, eq, fag⟩ se h (.ptr nm off) (.int k i) = .val (0 ≤ i ∧ i < (n : Int)) (.ptr nm (off + i.toNat * se)) h := rfl
theorem rLen_r (e : Nat) (agg ifc : Bool) (size bytes : Nat) (zero : List ZC) (eq : Option (List LK)) (fag : List Bool) (h : HS) (n sz : Nat) (f : Nat → Nat → SV) : rLen ⟨.slice e, agg, ifc, size, bytes, zero, eq, fag⟩ h (.row n sz f) = .val True (.int .i64 (n : Int)) h := rfl
def vLen (h : HS) (ver : Nat) : Vc → Res
  | .live ver' _ _ n _ => .val (ver = ver') (.int .i64 (n : Int)) h
  | .dead => .bad
theorem rLen_v (e : Nat) (agg ifc : Bool) (size bytes : Nat) (zero : List ZC) (eq : Option (List LK)) (fag : List Bool) (h : HS) (id ver : Nat) : rLen ⟨.slice e, agg, ifc, size, bytes, zero, eq, fag⟩ h (.vec id ver) = vLen h ver (getV h.vecs id) := rfl
theorem rConv_i (kd : IntKind) (agg ifc : Bool) (size bytes : Nat) (zero : List ZC) (eq : Option (List LK)) (fag : List Bool) (k : IntKind) (n : Int) (h : HS) : rConv ⟨.int kd, agg, ifc, size, bytes, zero, eq, fag⟩ (.int k n) h = .val True (.int kd (kd.wrap n)) h := rfl
theorem rSlice_a (e : Nat) (agg ifc : Bool) (size bytes : Nat) (zero : List ZC) (eq : Option (List LK)) (fag : List Bool) (n sz : Nat) (f : Nat → Nat → SV) (k1 : IntKind) (l : Int) (k2 : IntKind) (u : Int) (h : HS) : rSlice ⟨.slice e, agg, ifc, size, bytes, zero, eq, fag⟩ (.row n sz f) (some (.int k1 l)) (some (.int k2 u)) h = .val (0 ≤ l ∧ l ≤ u ∧ u ≤ (n : Int)) (.row (u.toNat - l.toNat) sz (fun i j => f (l.toNat + i) j)) h := rfl
theorem rSlice_b (e : Nat) (agg ifc : Bool) (size bytes : Nat) (zero : List ZC) (eq : Option (List LK)) (fag : List Bool) (n sz : Nat) (f : Nat → Nat → SV) (k1 : IntKind) (l : Int)  (h : HS) : rSlice ⟨.slice e, agg, ifc, size, bytes, zero, eq, fag⟩ (.row n sz f) (some (.int k1 l)) (none) h = .val (0 ≤ l ∧ l ≤ (n : Int)) (.row (n - l.toNat) sz (fun i j => f (l.toNat + i) j)) h := rfl
theorem rSlice_c (e : Nat) (agg ifc : Bool) (size bytes : Nat) (zero : List ZC) (eq : Option (List LK)) (fag : List Bool) (n sz : Nat) (f : Nat → Nat → SV) (k2 : IntKind) (u : Int) (h : HS) : rSlice ⟨.slice e, agg, ifc, size, bytes, zero, eq, fag⟩ (.row n sz f) (none) (some (.int k2 u)) h = .val (0 ≤ u ∧ u ≤ (n : Int)) (.row u.toNat sz f) h := rfl
def bMv2 (o : Option TI) (e : Nat) (h : HS) : Res := match o with | some te => .val (0 < te.size) (.vec (lenV h.vecs) 0) { h with vecs := snocV h.vecs (.live 0 e te.size 0 (fun _ _ => .any)) } | none => .bad
def bMv (T : Nat → Option TI) (h : HS) : Option TI → Res
  | some { kind := .slice e, .. } => bMv2 (T e) e h
  | _ => .val True (.row 0 1 (fun _ _ => .any)) h
theorem rMove_nil (T : Nat → Option TI) (t : List SV) (h : HS) (ty : TypeId) : rMove T t h ty (.const (.slice none 0 0)) = bMv T h (T ty) := by
  rw [rMove.eq_1]; unfold bMv bMv2
  cases T ty with
  | none => rfl
  | some ti => cases ti; rename_i kk _ _ _ _ _ _; cases kk <;> rfl
theorem rMove_tmp (T : Nat → Option TI) (t : List SV) (h : HS) (ty : TypeId) (i : Nat) : rMove T t h ty (.tmp i) = .val True (nth t i) h := rfl
theorem rMove_func (T : Nat → Option TI) (t : List SV) (h : HS) (ty : TypeId) (i : Nat) : rMove T t h ty (.func i) = .val True (.func i []) h := rfl
theorem rMove_int (T : Nat → Option TI) (t : List SV) (h : HS) (ty : TypeId) (k : IntKind) (n : Int) : rMove T t h ty (.const (.int k n)) = .val True (.int k n) h := rfl
theorem svC_int (k : IntKind) (n : Int) : svC (.int k n) = .int k n := rfl
theorem rMove_bool (T : Nat → Option TI) (t : List SV) (h : HS) (ty : TypeId) (b : Bool) : rMove T t h ty (.const (.bool b)) = .val True (.bool b) h := rfl
theorem svC_bool (b : Bool) : svC (.bool b) = .bool b := rfl
theorem rMove_string (T : Nat → Option TI) (t : List SV) (h : HS) (ty : TypeId) (b : ByteArray) : rMove T t h ty (.const (.string b)) = .val True (.str b) h := rfl
theorem svC_string (b : ByteArray) : svC (.string b) = .str b := rfl
theorem rMove_nilf (T : Nat → Option TI) (t : List SV) (h : HS) (ty : TypeId) : rMove T t h ty (.const (.nilFunc)) = .val True .nilf h := rfl
theorem svC_nilf : svC (.nilFunc) = .nilf := rfl
theorem rMove_nili (T : Nat → Option TI) (t : List SV) (h : HS) (ty : TypeId) : rMove T t h ty (.const (.nilIface)) = .val True .nili h := rfl
theorem svC_nili : svC (.nilIface) = .nili := rfl
theorem rMove_nilp (T : Nat → Option TI) (t : List SV) (h : HS) (ty : TypeId) : rMove T t h ty (.const (.pointer none)) = .val True .nilp h := rfl
theorem svC_nilp : svC (.pointer none) = .nilp := rfl
theorem svC_nils : svC (.slice none 0 0) = .row 0 1 (fun _ _ => .any) := rfl
theorem rMove_agg (T : Nat → Option TI) (t : List SV) (h : HS) (ty : TypeId) (cs : Array Value) : rMove T t h ty (.const (.agg cs)) = .val True (svC (.agg cs)) h := rfl
theorem isConst_tmp (i : Nat) : isConst (.tmp i) = false := rfl
theorem isConst_func (i : Nat) : isConst (.func i) = false := rfl
theorem frzF_any (d : Nat) (h : HS) : frzF (d + 1) h SV.any = SV.any := rfl
theorem Fl1_any  : Fl1 SV.any = Sc SV.any := rfl
theorem Fl_any  : Fl SV.any = Fl1 SV.any := rfl
theorem OwnL_any (h : HS) (ty : TypeId) (x : SV) (us vs : List SV) : OwnL h ty (x :: us) (SV.any :: vs) = (x = SV.any ∧ Fl1 SV.any ∧ OwnL h ty us vs) := rfl
theorem takeL_any (M : Nat) (ty : TypeId) (vs : List SV) : takeL M ty (SV.any :: vs) = (SV.any :: (takeL M ty vs).1, (takeL M ty vs).2) := rfl
theorem OwnT_any (h : HS) (ty : TypeId) (n1 sz1 : Nat) (f1 : Nat → Nat → SV) : OwnT h ty SV.any (.row n1 sz1 f1) = IsVec h ty n1 sz1 f1 SV.any := rfl
theorem IsVec_any (h : HS) (ty : TypeId) (n1 sz1 : Nat) (f1 : Nat → Nat → SV) : IsVec h ty n1 sz1 f1 SV.any = False := rfl
theorem fz0_any (h : HS) (u : SV) : fz0 h u SV.any = (u = SV.any ∧ Sc SV.any) := rfl
theorem fz1_any (h : HS) (u : SV) : fz1 h u SV.any = fz0 h u SV.any := rfl
theorem FzT_any (h : HS) (u : SV) : FzT h u SV.any = fz1 h u SV.any := rfl
theorem cellsOf_int  (k : IntKind) (n : Int) : cellsOf (SV.int k n) = some [(SV.int k n)] := rfl
theorem frzF_int (d : Nat) (h : HS) (k : IntKind) (n : Int) : frzF (d + 1) h (SV.int k n) = (SV.int k n) := rfl
theorem Fl1_int  (k : IntKind) (n : Int) : Fl1 (SV.int k n) = Sc (SV.int k n) := rfl
theorem Fl_int  (k : IntKind) (n : Int) : Fl (SV.int k n) = Fl1 (SV.int k n) := rfl
theorem OwnL_int (h : HS) (ty : TypeId) (x : SV) (us vs : List SV) (k : IntKind) (n : Int) : OwnL h ty (x :: us) ((SV.int k n) :: vs) = (x = (SV.int k n) ∧ Fl1 (SV.int k n) ∧ OwnL h ty us vs) := rfl
theorem takeL_int (M : Nat) (ty : TypeId) (vs : List SV) (k : IntKind) (n : Int) : takeL M ty ((SV.int k n) :: vs) = ((SV.int k n) :: (takeL M ty vs).1, (takeL M ty vs).2) := rfl
theorem OwnT_int (h : HS) (ty : TypeId) (k : IntKind) (n : Int) (n1 sz1 : Nat) (f1 : Nat → Nat → SV) : OwnT h ty (SV.int k n) (.row n1 sz1 f1) = IsVec h ty n1 sz1 f1 (SV.int k n) := rfl
theorem IsVec_int (h : HS) (ty : TypeId) (k : IntKind) (n : Int) (n1 sz1 : Nat) (f1 : Nat → Nat → SV) : IsVec h ty n1 sz1 f1 (SV.int k n) = False := rfl
theorem fz0_int (h : HS) (u : SV) (k : IntKind) (n : Int) : fz0 h u (SV.int k n) = (u = (SV.int k n) ∧ Sc (SV.int k n)) := rfl
theorem fz1_int (h : HS) (u : SV) (k : IntKind) (n : Int) : fz1 h u (SV.int k n) = fz0 h u (SV.int k n) := rfl
theorem FzT_int (h : HS) (u : SV) (k : IntKind) (n : Int) : FzT h u (SV.int k n) = fz1 h u (SV.int k n) := rfl
theorem subX_int (x : SV) (k : IntKind) (n : Int) : subX x (SV.int k n) = (x = (SV.int k n)) := rfl
theorem cellsOf_bool  (b : Bool) : cellsOf (SV.bool b) = some [(SV.bool b)] := rfl
theorem frzF_bool (d : Nat) (h : HS) (b : Bool) : frzF (d + 1) h (SV.bool b) = (SV.bool b) := rfl
theorem Fl1_bool  (b : Bool) : Fl1 (SV.bool b) = Sc (SV.bool b) := rfl
theorem Fl_bool  (b : Bool) : Fl (SV.bool b) = Fl1 (SV.bool b) := rfl
theorem OwnL_bool (h : HS) (ty : TypeId) (x : SV) (us vs : List SV) (b : Bool) : OwnL h ty (x :: us) ((SV.bool b) :: vs) = (x = (SV.bool b) ∧ Fl1 (SV.bool b) ∧ OwnL h ty us vs) := rfl
theorem takeL_bool (M : Nat) (ty : TypeId) (vs : List SV) (b : Bool) : takeL M ty ((SV.bool b) :: vs) = ((SV.bool b) :: (takeL M ty vs).1, (takeL M ty vs).2) := rfl
theorem OwnT_bool (h : HS) (ty : TypeId) (b : Bool) (n1 sz1 : Nat) (f1 : Nat → Nat → SV) : OwnT h ty (SV.bool b) (.row n1 sz1 f1) = IsVec h ty n1 sz1 f1 (SV.bool b) := rfl
theorem IsVec_bool (h : HS) (ty : TypeId) (b : Bool) (n1 sz1 : Nat) (f1 : Nat → Nat → SV) : IsVec h ty n1 sz1 f1 (SV.bool b) = False := rfl
theorem fz0_bool (h : HS) (u : SV) (b : Bool) : fz0 h u (SV.bool b) = (u = (SV.bool b) ∧ Sc (SV.bool b)) := rfl
theorem fz1_bool (h : HS) (u : SV) (b : Bool) : fz1 h u (SV.bool b) = fz0 h u (SV.bool b) := rfl
theorem FzT_bool (h : HS) (u : SV) (b : Bool) : FzT h u (SV.bool b) = fz1 h u (SV.bool b) := rfl
theorem subX_bool (x : SV) (b : Bool) : subX x (SV.bool b) = (x = (SV.bool b)) := rfl
theorem cellsOf_str  (s : ByteArray) : cellsOf (SV.str s) = some [(SV.str s)] := rfl
theorem frzF_str (d : Nat) (h : HS) (s : ByteArray) : frzF (d + 1) h (SV.str s) = (SV.str s) := rfl
theorem Fl1_str  (s : ByteArray) : Fl1 (SV.str s) = Sc (SV.str s) := rfl
theorem Fl_str  (s : ByteArray) : Fl (SV.str s) = Fl1 (SV.str s) := rfl
theorem OwnL_str (h : HS) (ty : TypeId) (x : SV) (us vs : List SV) (s : ByteArray) : OwnL h ty (x :: us) ((SV.str s) :: vs) = (x = (SV.str s) ∧ Fl1 (SV.str s) ∧ OwnL h ty us vs) := rfl
theorem takeL_str (M : Nat) (ty : TypeId) (vs : List SV) (s : ByteArray) : takeL M ty ((SV.str s) :: vs) = ((SV.str s) :: (takeL M ty vs).1, (takeL M ty vs).2) := rfl
theorem OwnT_str (h : HS) (ty : TypeId) (s : ByteArray) (n1 sz1 : Nat) (f1 : Nat → Nat → SV) : OwnT h ty (SV.str s) (.row n1 sz1 f1) = IsVec h ty n1 sz1 f1 (SV.str s) := rfl
theorem IsVec_str (h : HS) (ty : TypeId) (s : ByteArray) (n1 sz1 : Nat) (f1 : Nat → Nat → SV) : IsVec h ty n1 sz1 f1 (SV.str s) = False := rfl
theorem fz0_str (h : HS) (u : SV) (s : ByteArray) : fz0 h u (SV.str s) = (u = (SV.str s) ∧ Sc (SV.str s)) := rfl
theorem fz1_str (h : HS) (u : SV) (s : ByteArray) : fz1 h u (SV.str s) = fz0 h u (SV.str s) := rfl
theorem FzT_str (h : HS) (u : SV) (s : ByteArray) : FzT h u (SV.str s) = fz1 h u (SV.str s) := rfl
theorem subX_str (x : SV) (s : ByteArray) : subX x (SV.str s) = (x = (SV.str s)) := rfl
theorem cellsOf_ptr  (nm : Nat) (off : Nat) : cellsOf (SV.ptr nm off) = some [(SV.ptr nm off)] := rfl
theorem Fl1_ptr  (nm : Nat) (off : Nat) : Fl1 (SV.ptr nm off) = Sc (SV.ptr nm off) := rfl
theorem Fl_ptr  (nm : Nat) (off : Nat) : Fl (SV.ptr nm off) = Fl1 (SV.ptr nm off) := rfl
theorem OwnL_ptr (h : HS) (ty : TypeId) (x : SV) (us vs : List SV) (nm : Nat) (off : Nat) : OwnL h ty (x :: us) ((SV.ptr nm off) :: vs) = (x = (SV.ptr nm off) ∧ Fl1 (SV.ptr nm off) ∧ OwnL h ty us vs) := rfl
theorem takeL_ptr (M : Nat) (ty : TypeId) (vs : List SV) (nm : Nat) (off : Nat) : takeL M ty ((SV.ptr nm off) :: vs) = ((SV.ptr nm off) :: (takeL M ty vs).1, (takeL M ty vs).2) := rfl
theorem OwnT_ptr (h : HS) (ty : TypeId) (nm : Nat) (off : Nat) (n1 sz1 : Nat) (f1 : Nat → Nat → SV) : OwnT h ty (SV.ptr nm off) (.row n1 sz1 f1) = IsVec h ty n1 sz1 f1 (SV.ptr nm off) := rfl
theorem IsVec_ptr (h : HS) (ty : TypeId) (nm : Nat) (off : Nat) (n1 sz1 : Nat) (f1 : Nat → Nat → SV) : IsVec h ty n1 sz1 f1 (SV.ptr nm off) = False := rfl
theorem fz0_ptr (h : HS) (u : SV) (nm : Nat) (off : Nat) : fz0 h u (SV.ptr nm off) = (u = (SV.ptr nm off) ∧ Sc (SV.ptr nm off)) := rfl
theorem fz1_ptr (h : HS) (u : SV) (nm : Nat) (off : Nat) : fz1 h u (SV.ptr nm off) = fz0 h u (SV.ptr nm off) := rfl
theorem FzT_ptr (h : HS) (u : SV) (nm : Nat) (off : Nat) : FzT h u (SV.ptr nm off) = fz1 h u (SV.ptr nm off) := rfl
theorem subX_ptr (x : SV) (nm : Nat) (off : Nat) : subX x (SV.ptr nm off) = (x = (SV.ptr nm off)) := rfl
theorem cellsOf_nilp  : cellsOf SV.nilp = some [SV.nilp] := rfl
theorem frzF_nilp (d : Nat) (h : HS) : frzF (d + 1) h SV.nilp = SV.nilp := rfl
theorem Fl1_nilp  : Fl1 SV.nilp = Sc SV.nilp := rfl
theorem Fl_nilp  : Fl SV.nilp = Fl1 SV.nilp := rfl
theorem OwnL_nilp (h : HS) (ty : TypeId) (x : SV) (us vs : List SV) : OwnL h ty (x :: us) (SV.nilp :: vs) = (x = SV.nilp ∧ Fl1 SV.nilp ∧ OwnL h ty us vs) := rfl
theorem takeL_nilp (M : Nat) (ty : TypeId) (vs : List SV) : takeL M ty (SV.nilp :: vs) = (SV.nilp :: (takeL M ty vs).1, (takeL M ty vs).2) := rfl
theorem OwnT_nilp (h : HS) (ty : TypeId) (n1 sz1 : Nat) (f1 : Nat → Nat → SV) : OwnT h ty SV.nilp (.row n1 sz1 f1) = IsVec h ty n1 sz1 f1 SV.nilp := rfl
theorem IsVec_nilp (h : HS) (ty : TypeId) (n1 sz1 : Nat) (f1 : Nat → Nat → SV) : IsVec h ty n1 sz1 f1 SV.nilp = False := rfl
theorem fz0_nilp (h : HS) (u : SV) : fz0 h u SV.nilp = (u = SV.nilp ∧ Sc SV.nilp) := rfl
theorem fz1_nilp (h : HS) (u : SV) : fz1 h u SV.nilp = fz0 h u SV.nilp := rfl
theorem FzT_nilp (h : HS) (u : SV) : FzT h u SV.nilp = fz1 h u SV.nilp := rfl
theorem subX_nilp (x : SV) : subX x SV.nilp = (x = SV.nilp) := rfl
theorem cellsOf_nils  (ety : Nat) (nsz : Nat) : cellsOf (SV.nils ety nsz) = some [(SV.nils ety nsz)] := rfl
theorem Fl1_nils  (ety : Nat) (nsz : Nat) : Fl1 (SV.nils ety nsz) = Sc (SV.nils ety nsz) := rfl
theorem Fl_nils  (ety : Nat) (nsz : Nat) : Fl (SV.nils ety nsz) = Fl1 (SV.nils ety nsz) := rfl
theorem OwnL_nils (h : HS) (ty : TypeId) (x : SV) (us vs : List SV) (ety : Nat) (nsz : Nat) : OwnL h ty (x :: us) ((SV.nils ety nsz) :: vs) = (x = (SV.nils ety nsz) ∧ Fl1 (SV.nils ety nsz) ∧ OwnL h ty us vs) := rfl
theorem takeL_nils (M : Nat) (ty : TypeId) (vs : List SV) (ety : Nat) (nsz : Nat) : takeL M ty ((SV.nils ety nsz) :: vs) = ((SV.nils ety nsz) :: (takeL M ty vs).1, (takeL M ty vs).2) := rfl
theorem OwnT_nils (h : HS) (ty : TypeId) (ety : Nat) (nsz : Nat) (n1 sz1 : Nat) (f1 : Nat → Nat → SV) : OwnT h ty (SV.nils ety nsz) (.row n1 sz1 f1) = IsVec h ty n1 sz1 f1 (SV.nils ety nsz) := rfl
theorem IsVec_nils (h : HS) (ty : TypeId) (ety : Nat) (nsz : Nat) (n1 sz1 : Nat) (f1 : Nat → Nat → SV) : IsVec h ty n1 sz1 f1 (SV.nils ety nsz) = False := rfl
theorem fz0_nils (h : HS) (u : SV) (ety : Nat) (nsz : Nat) : fz0 h u (SV.nils ety nsz) = (u = (SV.nils ety nsz) ∧ Sc (SV.nils ety nsz)) := rfl
theorem fz1_nils (h : HS) (u : SV) (ety : Nat) (nsz : Nat) : fz1 h u (SV.nils ety nsz) = fz0 h u (SV.nils ety nsz) := rfl
theorem FzT_nils (h : HS) (u : SV) (ety : Nat) (nsz : Nat) : FzT h u (SV.nils ety nsz) = fz1 h u (SV.nils ety nsz) := rfl
theorem subX_nils (x : SV) (ety : Nat) (nsz : Nat) : subX x (SV.nils ety nsz) = (x = (SV.nils ety nsz)) := rfl
theorem cellsOf_rptr  (sz : Nat) (f : Nat → SV) : cellsOf (SV.rptr sz f) = some [(SV.rptr sz f)] := rfl
theorem frzF_rptr (d : Nat) (h : HS) (sz : Nat) (f : Nat → SV) : frzF (d + 1) h (SV.rptr sz f) = (SV.rptr sz f) := rfl
theorem Fl1_rptr  (sz : Nat) (f : Nat → SV) : Fl1 (SV.rptr sz f) = Sc (SV.rptr sz f) := rfl
theorem Fl_rptr  (sz : Nat) (f : Nat → SV) : Fl (SV.rptr sz f) = Fl1 (SV.rptr sz f) := rfl
theorem OwnL_rptr (h : HS) (ty : TypeId) (x : SV) (us vs : List SV) (sz : Nat) (f : Nat → SV) : OwnL h ty (x :: us) ((SV.rptr sz f) :: vs) = (x = (SV.rptr sz f) ∧ Fl1 (SV.rptr sz f) ∧ OwnL h ty us vs) := rfl
theorem takeL_rptr (M : Nat) (ty : TypeId) (vs : List SV) (sz : Nat) (f : Nat → SV) : takeL M ty ((SV.rptr sz f) :: vs) = ((SV.rptr sz f) :: (takeL M ty vs).1, (takeL M ty vs).2) := rfl
theorem OwnT_rptr (h : HS) (ty : TypeId) (sz : Nat) (f : Nat → SV) (n1 sz1 : Nat) (f1 : Nat → Nat → SV) : OwnT h ty (SV.rptr sz f) (.row n1 sz1 f1) = IsVec h ty n1 sz1 f1 (SV.rptr sz f) := rfl
theorem IsVec_rptr (h : HS) (ty : TypeId) (sz : Nat) (f : Nat → SV) (n1 sz1 : Nat) (f1 : Nat → Nat → SV) : IsVec h ty n1 sz1 f1 (SV.rptr sz f) = False := rfl
theorem fz0_rptr (h : HS) (u : SV) (sz : Nat) (f : Nat → SV) : fz0 h u (SV.rptr sz f) = (u = (SV.rptr sz f) ∧ Sc (SV.rptr sz f)) := rfl
theorem fz1_rptr (h : HS) (u : SV) (sz : Nat) (f : Nat → SV) : fz1 h u (SV.rptr sz f) = fz0 h u (SV.rptr sz f) := rfl
theorem FzT_rptr (h : HS) (u : SV) (sz : Nat) (f : Nat → SV) : FzT h u (SV.rptr sz f) = fz1 h u (SV.rptr sz f) := rfl
theorem subX_rptr (x : SV) (sz : Nat) (f : Nat → SV) : subX x (SV.rptr sz f) = (x = (SV.rptr sz f)) := rfl
theorem cellsOf_row  (n : Nat) (sz : Nat) (f : Nat → Nat → SV) : cellsOf (SV.row n sz f) = some [(SV.row n sz f)] := rfl
theorem frzF_row (d : Nat) (h : HS) (n : Nat) (sz : Nat) (f : Nat → Nat → SV) : frzF (d + 1) h (SV.row n sz f) = (SV.row n sz f) := rfl
theorem Fl1_row  (n : Nat) (sz : Nat) (f : Nat → Nat → SV) : Fl1 (SV.row n sz f) = Sc (SV.row n sz f) := rfl
theorem Fl_row  (n : Nat) (sz : Nat) (f : Nat → Nat → SV) : Fl (SV.row n sz f) = Fl1 (SV.row n sz f) := rfl
theorem fz1_row (h : HS) (u : SV) (n : Nat) (sz : Nat) (f : Nat → Nat → SV) : fz1 h u (SV.row n sz f) = fz0 h u (SV.row n sz f) := rfl
theorem FzT_row (h : HS) (u : SV) (n : Nat) (sz : Nat) (f : Nat → Nat → SV) : FzT h u (SV.row n sz f) = fz1 h u (SV.row n sz f) := rfl
theorem cellsOf_vec  (id : Nat) (ver : Nat) : cellsOf (SV.vec id ver) = some [(SV.vec id ver)] := rfl
theorem Fl1_vec  (id : Nat) (ver : Nat) : Fl1 (SV.vec id ver) = Sc (SV.vec id ver) := rfl
theorem Fl_vec  (id : Nat) (ver : Nat) : Fl (SV.vec id ver) = Fl1 (SV.vec id ver) := rfl
theorem OwnL_vec (h : HS) (ty : TypeId) (x : SV) (us vs : List SV) (id : Nat) (ver : Nat) : OwnL h ty (x :: us) ((SV.vec id ver) :: vs) = (x = (SV.vec id ver) ∧ Fl1 (SV.vec id ver) ∧ OwnL h ty us vs) := rfl
theorem takeL_vec (M : Nat) (ty : TypeId) (vs : List SV) (id : Nat) (ver : Nat) : takeL M ty ((SV.vec id ver) :: vs) = ((SV.vec id ver) :: (takeL M ty vs).1, (takeL M ty vs).2) := rfl
theorem OwnT_vec (h : HS) (ty : TypeId) (id : Nat) (ver : Nat) (n1 sz1 : Nat) (f1 : Nat → Nat → SV) : OwnT h ty (SV.vec id ver) (.row n1 sz1 f1) = IsVec h ty n1 sz1 f1 (SV.vec id ver) := rfl
theorem fz0_vec (h : HS) (u : SV) (id : Nat) (ver : Nat) : fz0 h u (SV.vec id ver) = (u = (SV.vec id ver) ∧ Sc (SV.vec id ver)) := rfl
theorem fz1_vec (h : HS) (u : SV) (id : Nat) (ver : Nat) : fz1 h u (SV.vec id ver) = fz0 h u (SV.vec id ver) := rfl
theorem FzT_vec (h : HS) (u : SV) (id : Nat) (ver : Nat) : FzT h u (SV.vec id ver) = fz1 h u (SV.vec id ver) := rfl
theorem subX_vec (x : SV) (id : Nat) (ver : Nat) : subX x (SV.vec id ver) = (x = (SV.vec id ver)) := rfl
theorem cellsOf_vptr  (id : Nat) (ver : Nat) (sz : Nat) (i : Nat) (off : Nat) : cellsOf (SV.vptr id ver sz i off) = some [(SV.vptr id ver sz i off)] := rfl
theorem frzF_vptr (d : Nat) (h : HS) (id : Nat) (ver : Nat) (sz : Nat) (i : Nat) (off : Nat) : frzF (d + 1) h (SV.vptr id ver sz i off) = (SV.vptr id ver sz i off) := rfl
theorem Fl1_vptr  (id : Nat) (ver : Nat) (sz : Nat) (i : Nat) (off : Nat) : Fl1 (SV.vptr id ver sz i off) = Sc (SV.vptr id ver sz i off) := rfl
theorem Fl_vptr  (id : Nat) (ver : Nat) (sz : Nat) (i : Nat) (off : Nat) : Fl (SV.vptr id ver sz i off) = Fl1 (SV.vptr id ver sz i off) := rfl
theorem OwnL_vptr (h : HS) (ty : TypeId) (x : SV) (us vs : List SV) (id : Nat) (ver : Nat) (sz : Nat) (i : Nat) (off : Nat) : OwnL h ty (x :: us) ((SV.vptr id ver sz i off) :: vs) = (x = (SV.vptr id ver sz i off) ∧ Fl1 (SV.vptr id ver sz i off) ∧ OwnL h ty us vs) := rfl
theorem takeL_vptr (M : Nat) (ty : TypeId) (vs : List SV) (id : Nat) (ver : Nat) (sz : Nat) (i : Nat) (off : Nat) : takeL M ty ((SV.vptr id ver sz i off) :: vs) = ((SV.vptr id ver sz i off) :: (takeL M ty vs).1, (takeL M ty vs).2) := rfl
theorem OwnT_vptr (h : HS) (ty : TypeId) (id : Nat) (ver : Nat) (sz : Nat) (i : Nat) (off : Nat) (n1 sz1 : Nat) (f1 : Nat → Nat → SV) : OwnT h ty (SV.vptr id ver sz i off) (.row n1 sz1 f1) = IsVec h ty n1 sz1 f1 (SV.vptr id ver sz i off) := rfl
theorem IsVec_vptr (h : HS) (ty : TypeId) (id : Nat) (ver : Nat) (sz : Nat) (i : Nat) (off : Nat) (n1 sz1 : Nat) (f1 : Nat → Nat → SV) : IsVec h ty n1 sz1 f1 (SV.vptr id ver sz i off) = False := rfl
theorem fz0_vptr (h : HS) (u : SV) (id : Nat) (ver : Nat) (sz : Nat) (i : Nat) (off : Nat) : fz0 h u (SV.vptr id ver sz i off) = (u = (SV.vptr id ver sz i off) ∧ Sc (SV.vptr id ver sz i off)) := rfl
theorem fz1_vptr (h : HS) (u : SV) (id : Nat) (ver : Nat) (sz : Nat) (i : Nat) (off : Nat) : fz1 h u (SV.vptr id ver sz i off) = fz0 h u (SV.vptr id ver sz i off) := rfl
theorem FzT_vptr (h : HS) (u : SV) (id : Nat) (ver : Nat) (sz : Nat) (i : Nat) (off : Nat) : FzT h u (SV.vptr id ver sz i off) = fz1 h u (SV.vptr id ver sz i off) := rfl
theorem subX_vptr (x : SV) (id : Nat) (ver : Nat) (sz : Nat) (i : Nat) (off : Nat) : subX x (SV.vptr id ver sz i off) = (x = (SV.vptr id ver sz i off)) := rfl
theorem cellsOf_func  (g : Nat) (caps : List SV) : cellsOf (SV.func g caps) = some [(SV.func g caps)] := rfl
theorem frzF_func (d : Nat) (h : HS) (g : Nat) (caps : List SV) : frzF (d + 1) h (SV.func g caps) = (SV.func g caps) := rfl
theorem Fl1_func  (g : Nat) (caps : List SV) : Fl1 (SV.func g caps) = Sc (SV.func g caps) := rfl
theorem Fl_func  (g : Nat) (caps : List SV) : Fl (SV.func g caps) = Fl1 (SV.func g caps) := rfl
theorem OwnL_func (h : HS) (ty : TypeId) (x : SV) (us vs : List SV) (g : Nat) (caps : List SV) : OwnL h ty (x :: us) ((SV.func g caps) :: vs) = (x = (SV.func g caps) ∧ Fl1 (SV.func g caps) ∧ OwnL h ty us vs) := rfl
theorem takeL_func (M : Nat) (ty : TypeId) (vs : List SV) (g : Nat) (caps : List SV) : takeL M ty ((SV.func g caps) :: vs) = ((SV.func g caps) :: (takeL M ty vs).1, (takeL M ty vs).2) := rfl
theorem OwnT_func (h : HS) (ty : TypeId) (g : Nat) (caps : List SV) (n1 sz1 : Nat) (f1 : Nat → Nat → SV) : OwnT h ty (SV.func g caps) (.row n1 sz1 f1) = IsVec h ty n1 sz1 f1 (SV.func g caps) := rfl
theorem IsVec_func (h : HS) (ty : TypeId) (g : Nat) (caps : List SV) (n1 sz1 : Nat) (f1 : Nat → Nat → SV) : IsVec h ty n1 sz1 f1 (SV.func g caps) = False := rfl
theorem fz0_func (h : HS) (u : SV) (g : Nat) (caps : List SV) : fz0 h u (SV.func g caps) = (u = (SV.func g caps) ∧ Sc (SV.func g caps)) := rfl
theorem fz1_func (h : HS) (u : SV) (g : Nat) (caps : List SV) : fz1 h u (SV.func g caps) = fz0 h u (SV.func g caps) := rfl
theorem FzT_func (h : HS) (u : SV) (g : Nat) (caps : List SV) : FzT h u (SV.func g caps) = fz1 h u (SV.func g caps) := rfl
theorem subX_func (x : SV) (g : Nat) (caps : List SV) : subX x (SV.func g caps) = (x = (SV.func g caps)) := rfl
theorem cellsOf_nilf  : cellsOf SV.nilf = some [SV.nilf] := rfl
theorem frzF_nilf (d : Nat) (h : HS) : frzF (d + 1) h SV.nilf = SV.nilf := rfl
theorem Fl1_nilf  : Fl1 SV.nilf = Sc SV.nilf := rfl
theorem Fl_nilf  : Fl SV.nilf = Fl1 SV.nilf := rfl
theorem OwnL_nilf (h : HS) (ty : TypeId) (x : SV) (us vs : List SV) : OwnL h ty (x :: us) (SV.nilf :: vs) = (x = SV.nilf ∧ Fl1 SV.nilf ∧ OwnL h ty us vs) := rfl
theorem takeL_nilf (M : Nat) (ty : TypeId) (vs : List SV) : takeL M ty (SV.nilf :: vs) = (SV.nilf :: (takeL M ty vs).1, (takeL M ty vs).2) := rfl
theorem OwnT_nilf (h : HS) (ty : TypeId) (n1 sz1 : Nat) (f1 : Nat → Nat → SV) : OwnT h ty SV.nilf (.row n1 sz1 f1) = IsVec h ty n1 sz1 f1 SV.nilf := rfl
theorem IsVec_nilf (h : HS) (ty : TypeId) (n1 sz1 : Nat) (f1 : Nat → Nat → SV) : IsVec h ty n1 sz1 f1 SV.nilf = False := rfl
theorem fz0_nilf (h : HS) (u : SV) : fz0 h u SV.nilf = (u = SV.nilf ∧ Sc SV.nilf) := rfl
theorem fz1_nilf (h : HS) (u : SV) : fz1 h u SV.nilf = fz0 h u SV.nilf := rfl
theorem FzT_nilf (h : HS) (u : SV) : FzT h u SV.nilf = fz1 h u SV.nilf := rfl
theorem subX_nilf (x : SV) : subX x SV.nilf = (x = SV.nilf) := rfl
theorem cellsOf_iface  (t : TypeId) (v : SV) : cellsOf (SV.iface t v) = some [(SV.iface t v)] := rfl
theorem frzF_iface (d : Nat) (h : HS) (t : TypeId) (v : SV) : frzF (d + 1) h (SV.iface t v) = (SV.iface t v) := rfl
theorem Fl1_iface  (t : TypeId) (v : SV) : Fl1 (SV.iface t v) = Sc (SV.iface t v) := rfl
theorem Fl_iface  (t : TypeId) (v : SV) : Fl (SV.iface t v) = Fl1 (SV.iface t v) := rfl
theorem OwnL_iface (h : HS) (ty : TypeId) (x : SV) (us vs : List SV) (t : TypeId) (v : SV) : OwnL h ty (x :: us) ((SV.iface t v) :: vs) = (x = (SV.iface t v) ∧ Fl1 (SV.iface t v) ∧ OwnL h ty us vs) := rfl
theorem takeL_iface (M : Nat) (ty : TypeId) (vs : List SV) (t : TypeId) (v : SV) : takeL M ty ((SV.iface t v) :: vs) = ((SV.iface t v) :: (takeL M ty vs).1, (takeL M ty vs).2) := rfl
theorem OwnT_iface (h : HS) (ty : TypeId) (t : TypeId) (v : SV) (n1 sz1 : Nat) (f1 : Nat → Nat → SV) : OwnT h ty (SV.iface t v) (.row n1 sz1 f1) = IsVec h ty n1 sz1 f1 (SV.iface t v) := rfl
theorem IsVec_iface (h : HS) (ty : TypeId) (t : TypeId) (v : SV) (n1 sz1 : Nat) (f1 : Nat → Nat → SV) : IsVec h ty n1 sz1 f1 (SV.iface t v) = False := rfl
theorem fz0_iface (h : HS) (u : SV) (t : TypeId) (v : SV) : fz0 h u (SV.iface t v) = (u = (SV.iface t v) ∧ Sc (SV.iface t v)) := rfl
theorem fz1_iface (h : HS) (u : SV) (t : TypeId) (v : SV) : fz1 h u (SV.iface t v) = fz0 h u (SV.iface t v) := rfl
theorem FzT_iface (h : HS) (u : SV) (t : TypeId) (v : SV) : FzT h u (SV.iface t v) = fz1 h u (SV.iface t v) := rfl
theorem subX_iface (x : SV) (t : TypeId) (v : SV) : subX x (SV.iface t v) = (x = (SV.iface t v)) := rfl
theorem cellsOf_nili  : cellsOf SV.nili = some [SV.nili] := rfl
theorem frzF_nili (d : Nat) (h : HS) : frzF (d + 1) h SV.nili = SV.nili := rfl
theorem Fl1_nili  : Fl1 SV.nili = Sc SV.nili := rfl
theorem Fl_nili  : Fl SV.nili = Fl1 SV.nili := rfl
theorem OwnL_nili (h : HS) (ty : TypeId) (x : SV) (us vs : List SV) : OwnL h ty (x :: us) (SV.nili :: vs) = (x = SV.nili ∧ Fl1 SV.nili ∧ OwnL h ty us vs) := rfl
theorem takeL_nili (M : Nat) (ty : TypeId) (vs : List SV) : takeL M ty (SV.nili :: vs) = (SV.nili :: (takeL M ty vs).1, (takeL M ty vs).2) := rfl
theorem OwnT_nili (h : HS) (ty : TypeId) (n1 sz1 : Nat) (f1 : Nat → Nat → SV) : OwnT h ty SV.nili (.row n1 sz1 f1) = IsVec h ty n1 sz1 f1 SV.nili := rfl
theorem IsVec_nili (h : HS) (ty : TypeId) (n1 sz1 : Nat) (f1 : Nat → Nat → SV) : IsVec h ty n1 sz1 f1 SV.nili = False := rfl
theorem fz0_nili (h : HS) (u : SV) : fz0 h u SV.nili = (u = SV.nili ∧ Sc SV.nili) := rfl
theorem fz1_nili (h : HS) (u : SV) : fz1 h u SV.nili = fz0 h u SV.nili := rfl
theorem FzT_nili (h : HS) (u : SV) : FzT h u SV.nili = fz1 h u SV.nili := rfl
theorem subX_nili (x : SV) : subX x SV.nili = (x = SV.nili) := rfl
theorem Fl_agg  (l : List SV) : Fl (SV.agg l) = Fl1 (SV.agg l) := rfl
theorem OwnL_agg (h : HS) (ty : TypeId) (x : SV) (us vs : List SV) (l : List SV) : OwnL h ty (x :: us) ((SV.agg l) :: vs) = (x = (SV.agg l) ∧ Fl1 (SV.agg l) ∧ OwnL h ty us vs) := rfl
theorem takeL_agg (M : Nat) (ty : TypeId) (vs : List SV) (l : List SV) : takeL M ty ((SV.agg l) :: vs) = ((SV.agg l) :: (takeL M ty vs).1, (takeL M ty vs).2) := rfl
theorem OwnT_agg (h : HS) (ty : TypeId) (l : List SV) (n1 sz1 : Nat) (f1 : Nat → Nat → SV) : OwnT h ty (SV.agg l) (.row n1 sz1 f1) = IsVec h ty n1 sz1 f1 (SV.agg l) := rfl
theorem IsVec_agg (h : HS) (ty : TypeId) (l : List SV) (n1 sz1 : Nat) (f1 : Nat → Nat → SV) : IsVec h ty n1 sz1 f1 (SV.agg l) = False := rfl
theorem fz0_agg (h : HS) (u : SV) (l : List SV) : fz0 h u (SV.agg l) = (u = (SV.agg l) ∧ Sc (SV.agg l)) := rfl
theorem FzT_agg (h : HS) (u : SV) (l : List SV) : FzT h u (SV.agg l) = fz1 h u (SV.agg l) := rfl
theorem subX_agg (x : SV) (l : List SV) : subX x (SV.agg l) = (x = (SV.agg l)) := rfl
theorem frzF_tup (d : Nat) (h : HS) (l : List SV) : frzF (d + 1) h (SV.tup l) = (SV.tup l) := rfl
theorem OwnL_tup (h : HS) (ty : TypeId) (x : SV) (us vs : List SV) (l : List SV) : OwnL h ty (x :: us) ((SV.tup l) :: vs) = (x = (SV.tup l) ∧ Fl1 (SV.tup l) ∧ OwnL h ty us vs) := rfl
theorem takeL_tup (M : Nat) (ty : TypeId) (vs : List SV) (l : List SV) : takeL M ty ((SV.tup l) :: vs) = ((SV.tup l) :: (takeL M ty vs).1, (takeL M ty vs).2) := rfl
theorem IsVec_tup (h : HS) (ty : TypeId) (l : List SV) (n1 sz1 : Nat) (f1 : Nat → Nat → SV) : IsVec h ty n1 sz1 f1 (SV.tup l) = False := rfl
theorem fz0_tup (h : HS) (u : SV) (l : List SV) : fz0 h u (SV.tup l) = (u = (SV.tup l) ∧ Sc (SV.tup l)) := rfl
theorem fz1_tup (h : HS) (u : SV) (l : List SV) : fz1 h u (SV.tup l) = fz0 h u (SV.tup l) := rfl
theorem subX_tup (x : SV) (l : List SV) : subX x (SV.tup l) = (x = (SV.tup l)) := rfl
theorem cellsOf_yield  (nm : Nat) : cellsOf (SV.yield nm) = some [(SV.yield nm)] := rfl
theorem frzF_yield (d : Nat) (h : HS) (nm : Nat) : frzF (d + 1) h (SV.yield nm) = (SV.yield nm) := rfl
theorem Fl1_yield  (nm : Nat) : Fl1 (SV.yield nm) = Sc (SV.yield nm) := rfl
theorem Fl_yield  (nm : Nat) : Fl (SV.yield nm) = Fl1 (SV.yield nm) := rfl
theorem OwnL_yield (h : HS) (ty : TypeId) (x : SV) (us vs : List SV) (nm : Nat) : OwnL h ty (x :: us) ((SV.yield nm) :: vs) = (x = (SV.yield nm) ∧ Fl1 (SV.yield nm) ∧ OwnL h ty us vs) := rfl
theorem takeL_yield (M : Nat) (ty : TypeId) (vs : List SV) (nm : Nat) : takeL M ty ((SV.yield nm) :: vs) = ((SV.yield nm) :: (takeL M ty vs).1, (takeL M ty vs).2) := rfl
theorem OwnT_yield (h : HS) (ty : TypeId) (nm : Nat) (n1 sz1 : Nat) (f1 : Nat → Nat → SV) : OwnT h ty (SV.yield nm) (.row n1 sz1 f1) = IsVec h ty n1 sz1 f1 (SV.yield nm) := rfl
theorem IsVec_yield (h : HS) (ty : TypeId) (nm : Nat) (n1 sz1 : Nat) (f1 : Nat → Nat → SV) : IsVec h ty n1 sz1 f1 (SV.yield nm) = False := rfl
theorem fz0_yield (h : HS) (u : SV) (nm : Nat) : fz0 h u (SV.yield nm) = (u = (SV.yield nm) ∧ Sc (SV.yield nm)) := rfl
theorem fz1_yield (h : HS) (u : SV) (nm : Nat) : fz1 h u (SV.yield nm) = fz0 h u (SV.yield nm) := rfl
theorem FzT_yield (h : HS) (u : SV) (nm : Nat) : FzT h u (SV.yield nm) = fz1 h u (SV.yield nm) := rfl
theorem subX_yield (x : SV) (nm : Nat) : subX x (SV.yield nm) = (x = (SV.yield nm)) := rfl
theorem cellsOf_meth  (g : Nat) (first : List SV) : cellsOf (SV.meth g first) = some [(SV.meth g first)] := rfl
theorem frzF_meth (d : Nat) (h : HS) (g : Nat) (first : List SV) : frzF (d + 1) h (SV.meth g first) = (SV.meth g first) := rfl
theorem Fl1_meth  (g : Nat) (first : List SV) : Fl1 (SV.meth g first) = Sc (SV.meth g first) := rfl
theorem Fl_meth  (g : Nat) (first : List SV) : Fl (SV.meth g first) = Fl1 (SV.meth g first) := rfl
theorem OwnL_meth (h : HS) (ty : TypeId) (x : SV) (us vs : List SV) (g : Nat) (first : List SV) : OwnL h ty (x :: us) ((SV.meth g first) :: vs) = (x = (SV.meth g first) ∧ Fl1 (SV.meth g first) ∧ OwnL h ty us vs) := rfl
theorem takeL_meth (M : Nat) (ty : TypeId) (vs : List SV) (g : Nat) (first : List SV) : takeL M ty ((SV.meth g first) :: vs) = ((SV.meth g first) :: (takeL M ty vs).1, (takeL M ty vs).2) := rfl
theorem OwnT_meth (h : HS) (ty : TypeId) (g : Nat) (first : List SV) (n1 sz1 : Nat) (f1 : Nat → Nat → SV) : OwnT h ty (SV.meth g first) (.row n1 sz1 f1) = IsVec h ty n1 sz1 f1 (SV.meth g first) := rfl
theorem IsVec_meth (h : HS) (ty : TypeId) (g : Nat) (first : List SV) (n1 sz1 : Nat) (f1 : Nat → Nat → SV) : IsVec h ty n1 sz1 f1 (SV.meth g first) = False := rfl
theorem fz0_meth (h : HS) (u : SV) (g : Nat) (first : List SV) : fz0 h u (SV.meth g first) = (u = (SV.meth g first) ∧ Sc (SV.meth g first)) := rfl
theorem fz1_meth (h : HS) (u : SV) (g : Nat) (first : List SV) : fz1 h u (SV.meth g first) = fz0 h u (SV.meth g first) := rfl
theorem FzT_meth (h : HS) (u : SV) (g : Nat) (first : List SV) : FzT h u (SV.meth g first) = fz1 h u (SV.meth g first) := rfl
theorem subX_meth (x : SV) (g : Nat) (first : List SV) : subX x (SV.meth g first) = (x = (SV.meth g first)) := rfl
theorem cellsOf_vcut  (id : Nat) (ver : Nat) (sz : Nat) (lo : Nat) (n : Nat) (x1 : Bool) : cellsOf (SV.vcut id ver sz lo n x1) = some [(SV.vcut id ver sz lo n x1)] := rfl
theorem Fl1_vcut  (id : Nat) (ver : Nat) (sz : Nat) (lo : Nat) (n : Nat) (x1 : Bool) : Fl1 (SV.vcut id ver sz lo n x1) = Sc (SV.vcut id ver sz lo n x1) := rfl
theorem Fl_vcut  (id : Nat) (ver : Nat) (sz : Nat) (lo : Nat) (n : Nat) (x1 : Bool) : Fl (SV.vcut id ver sz lo n x1) = Fl1 (SV.vcut id ver sz lo n x1) := rfl
theorem OwnL_vcut (h : HS) (ty : TypeId) (x : SV) (us vs : List SV) (id : Nat) (ver : Nat) (sz : Nat) (lo : Nat) (n : Nat) (x1 : Bool) : OwnL h ty (x :: us) ((SV.vcut id ver sz lo n x1) :: vs) = (x = (SV.vcut id ver sz lo n x1) ∧ Fl1 (SV.vcut id ver sz lo n x1) ∧ OwnL h ty us vs) := rfl
theorem takeL_vcut (M : Nat) (ty : TypeId) (vs : List SV) (id : Nat) (ver : Nat) (sz : Nat) (lo : Nat) (n : Nat) (x1 : Bool) : takeL M ty ((SV.vcut id ver sz lo n x1) :: vs) = ((SV.vcut id ver sz lo n x1) :: (takeL M ty vs).1, (takeL M ty vs).2) := rfl
theorem OwnT_vcut (h : HS) (ty : TypeId) (id : Nat) (ver : Nat) (sz : Nat) (lo : Nat) (n : Nat) (x1 : Bool) (n1 sz1 : Nat) (f1 : Nat → Nat → SV) : OwnT h ty (SV.vcut id ver sz lo n x1) (.row n1 sz1 f1) = IsVec h ty n1 sz1 f1 (SV.vcut id ver sz lo n x1) := rfl
theorem IsVec_vcut (h : HS) (ty : TypeId) (id : Nat) (ver : Nat) (sz : Nat) (lo : Nat) (n : Nat) (x1 : Bool) (n1 sz1 : Nat) (f1 : Nat → Nat → SV) : IsVec h ty n1 sz1 f1 (SV.vcut id ver sz lo n x1) = False := rfl
theorem fz0_vcut (h : HS) (u : SV) (id : Nat) (ver : Nat) (sz : Nat) (lo : Nat) (n : Nat) (x1 : Bool) : fz0 h u (SV.vcut id ver sz lo n x1) = (u = (SV.vcut id ver sz lo n x1) ∧ Sc (SV.vcut id ver sz lo n x1)) := rfl
theorem fz1_vcut (h : HS) (u : SV) (id : Nat) (ver : Nat) (sz : Nat) (lo : Nat) (n : Nat) (x1 : Bool) : fz1 h u (SV.vcut id ver sz lo n x1) = fz0 h u (SV.vcut id ver sz lo n x1) := rfl
theorem FzT_vcut (h : HS) (u : SV) (id : Nat) (ver : Nat) (sz : Nat) (lo : Nat) (n : Nat) (x1 : Bool) : FzT h u (SV.vcut id ver sz lo n x1) = fz1 h u (SV.vcut id ver sz lo n x1) := rfl
theorem subX_vcut (x : SV) (id : Nat) (ver : Nat) (sz : Nat) (lo : Nat) (n : Nat) (x1 : Bool) : subX x (SV.vcut id ver sz lo n x1) = (x = (SV.vcut id ver sz lo n x1)) := rfl
theorem cellsOf_bsl  (nm : Nat) (off : Nat) (n : Nat) : cellsOf (SV.bsl nm off n) = some [(SV.bsl nm off n)] := rfl
theorem frzF_bsl (d : Nat) (h : HS) (nm : Nat) (off : Nat) (n : Nat) : frzF (d + 1) h (SV.bsl nm off n) = (SV.bsl nm off n) := rfl
theorem Fl1_bsl  (nm : Nat) (off : Nat) (n : Nat) : Fl1 (SV.bsl nm off n) = Sc (SV.bsl nm off n) := rfl
theorem Fl_bsl  (nm : Nat) (off : Nat) (n : Nat) : Fl (SV.bsl nm off n) = Fl1 (SV.bsl nm off n) := rfl
theorem OwnL_bsl (h : HS) (ty : TypeId) (x : SV) (us vs : List SV) (nm : Nat) (off : Nat) (n : Nat) : OwnL h ty (x :: us) ((SV.bsl nm off n) :: vs) = (x = (SV.bsl nm off n) ∧ Fl1 (SV.bsl nm off n) ∧ OwnL h ty us vs) := rfl
theorem takeL_bsl (M : Nat) (ty : TypeId) (vs : List SV) (nm : Nat) (off : Nat) (n : Nat) : takeL M ty ((SV.bsl nm off n) :: vs) = ((SV.bsl nm off n) :: (takeL M ty vs).1, (takeL M ty vs).2) := rfl
theorem OwnT_bsl (h : HS) (ty : TypeId) (nm : Nat) (off : Nat) (n : Nat) (n1 sz1 : Nat) (f1 : Nat → Nat → SV) : OwnT h ty (SV.bsl nm off n) (.row n1 sz1 f1) = IsVec h ty n1 sz1 f1 (SV.bsl nm off n) := rfl
theorem IsVec_bsl (h : HS) (ty : TypeId) (nm : Nat) (off : Nat) (n : Nat) (n1 sz1 : Nat) (f1 : Nat → Nat → SV) : IsVec h ty n1 sz1 f1 (SV.bsl nm off n) = False := rfl
theorem fz0_bsl (h : HS) (u : SV) (nm : Nat) (off : Nat) (n : Nat) : fz0 h u (SV.bsl nm off n) = (u = (SV.bsl nm off n) ∧ Sc (SV.bsl nm off n)) := rfl
theorem fz1_bsl (h : HS) (u : SV) (nm : Nat) (off : Nat) (n : Nat) : fz1 h u (SV.bsl nm off n) = fz0 h u (SV.bsl nm off n) := rfl
theorem FzT_bsl (h : HS) (u : SV) (nm : Nat) (off : Nat) (n : Nat) : FzT h u (SV.bsl nm off n) = fz1 h u (SV.bsl nm off n) := rfl
theorem subX_bsl (x : SV) (nm : Nat) (off : Nat) (n : Nat) : subX x (SV.bsl nm off n) = (x = (SV.bsl nm off n)) := rfl
theorem cellsOf_mapp  (nm : Nat) : cellsOf (SV.mapp nm) = some [(SV.mapp nm)] := rfl
theorem frzF_mapp (d : Nat) (h : HS) (nm : Nat) : frzF (d + 1) h (SV.mapp nm) = (SV.mapp nm) := rfl
theorem Fl1_mapp  (nm : Nat) : Fl1 (SV.mapp nm) = Sc (SV.mapp nm) := rfl
theorem Fl_mapp  (nm : Nat) : Fl (SV.mapp nm) = Fl1 (SV.mapp nm) := rfl
theorem OwnL_mapp (h : HS) (ty : TypeId) (x : SV) (us vs : List SV) (nm : Nat) : OwnL h ty (x :: us) ((SV.mapp nm) :: vs) = (x = (SV.mapp nm) ∧ Fl1 (SV.mapp nm) ∧ OwnL h ty us vs) := rfl
theorem takeL_mapp (M : Nat) (ty : TypeId) (vs : List SV) (nm : Nat) : takeL M ty ((SV.mapp nm) :: vs) = ((SV.mapp nm) :: (takeL M ty vs).1, (takeL M ty vs).2) := rfl
theorem OwnT_mapp (h : HS) (ty : TypeId) (nm : Nat) (n1 sz1 : Nat) (f1 : Nat → Nat → SV) : OwnT h ty (SV.mapp nm) (.row n1 sz1 f1) = IsVec h ty n1 sz1 f1 (SV.mapp nm) := rfl
theorem IsVec_mapp (h : HS) (ty : TypeId) (nm : Nat) (n1 sz1 : Nat) (f1 : Nat → Nat → SV) : IsVec h ty n1 sz1 f1 (SV.mapp nm) = False := rfl
theorem fz0_mapp (h : HS) (u : SV) (nm : Nat) : fz0 h u (SV.mapp nm) = (u = (SV.mapp nm) ∧ Sc (SV.mapp nm)) := rfl
theorem fz1_mapp (h : HS) (u : SV) (nm : Nat) : fz1 h u (SV.mapp nm) = fz0 h u (SV.mapp nm) := rfl
theorem FzT_mapp (h : HS) (u : SV) (nm : Nat) : FzT h u (SV.mapp nm) = fz1 h u (SV.mapp nm) := rfl
theorem subX_mapp (x : SV) (nm : Nat) : subX x (SV.mapp nm) = (x = (SV.mapp nm)) := rfl
theorem subBk_mp (x : Blk) (m : MapS) : subBk x (.mp m) = (x = .mp m) := rfl
theorem subBk_loop (x : Blk) (st : LoopState) (pend : Option Code) (fid : Nat) (t : List SV) (params : Array Nat) (assign body : Code) : subBk x (.loop st pend fid t params assign body) = (x = .loop st pend fid t params assign body) := rfl
theorem wantS_tf (C : Ctx) (R R0 : Rn) (o : Oper) (fid : Nat) (ops : Array Oper) (i : Nat) (idx : List Nat) (k : List It) (t : List SV) (fs : List Fr) (h : HS) (Q : Out → HS → Prop) : wantS C R R0 true false o fid ops i idx k t fs h Q = R fid (.reg ops idx :: k) (put t o.dst (.tup [])) fs h Q := rfl
theorem gateW_tf (C : Ctx) (R0 : Rn) (X : List SV → SV → HS → Prop) (q : Bool) (o : Oper) (S : List SV → HS → Prop) (t : List SV) (h : HS) : gateW C R0 X true false q o S t h = S (put t o.dst (.tup [])) h := rfl
theorem reW_tf (r : Option (Prop × SV)) (dst : Option Nat) (t : List SV) : reW true false r dst t = True := rfl
theorem wantS_ft (C : Ctx) (R R0 : Rn) (o : Oper) (fid : Nat) (ops : Array Oper) (i : Nat) (idx : List Nat) (k : List It) (t : List SV) (fs : List Fr) (h : HS) (Q : Out → HS → Prop) : wantS C R R0 false true o fid ops i idx k t fs h Q = R fid (.reg ops idx :: k) (put t o.dst (.tup [])) fs h Q := rfl
theorem gateW_ft (C : Ctx) (R0 : Rn) (X : List SV → SV → HS → Prop) (q : Bool) (o : Oper) (S : List SV → HS → Prop) (t : List SV) (h : HS) : gateW C R0 X false true q o S t h = S (put t o.dst (.tup [])) h := rfl
theorem reW_ft (r : Option (Prop × SV)) (dst : Option Nat) (t : List SV) : reW false true r dst t = True := rfl
theorem oneR_0 : oneR [] = .tup [] := rfl
theorem oneR_2 (x y : SV) (l : List SV) : oneR (x :: y :: l) = .tup (x :: y :: l) := rfl
theorem zipPut_0 (t : List SV) (l : List SV) : zipPut t [] l = t := by cases t <;> cases l <;> rfl
theorem zipPut_1 (t : List SV) (p : Nat) (ps : List Nat) : zipPut t (p :: ps) [] = t := by cases t <;> rfl
theorem rBS_s (e : TypeId) (te : TI) (n : Nat) (ps : List (Nat × SV)) (h : HS) : rBuildSlice e te (n + 1) ps h = fin3 (fillS (placeA te.size) ps (repZ (zcs te.zero) (n + 1))) e (n + 1) te.size h := rfl
theorem rLoad_ptr (ti : TI) (h : HS) (nm off : Nat) : rLoad ti h (.ptr nm off) = bLoad ti h off (getB h.blks nm) := by rw [rLoad.eq_1]; cases getB h.blks nm <;> rfl
theorem rLoad_vptr (ti : TI) (h : HS) (id ver sz i off : Nat) : rLoad ti h (.vptr id ver sz i off) = vLoad ti h ver sz i off (getV h.vecs id) := by rw [rLoad.eq_3]; cases getV h.vecs id <;> rfl
theorem frzF_vec (d : Nat) (h : HS) (id ver : Nat) : frzF (d + 1) h (.vec id ver) = frzV (frzF d h) ver (getV h.vecs id) := rfl
theorem frzF_ptr (d : Nat) (h : HS) (nm off : Nat) : frzF (d + 1) h (.ptr nm off) = frzB (frzF d h) off (getB h.blks nm) := rfl
theorem frzF_vcut (d : Nat) (h : HS) (id ver sz lo n : Nat) (x : Bool) : frzF (d + 1) h (.vcut id ver sz lo n x) = frzC (frzF d h) ver sz lo n (getV h.vecs id) := rfl
theorem frzF_agg (d : Nat) (h : HS) (l : List SV) : frzF (d + 1) h (.agg l) = .agg (mapF (frzF d h) l) := rfl
theorem Fl1_agg (l : List SV) : Fl1 (.agg l) = ScL l := rfl
theorem Fl_tup (l : List SV) : Fl (.tup l) = FlL l := rfl
theorem fz0_row (h : HS) (u : SV) (n sz : Nat) (f : Nat → Nat → SV) : fz0 h u (.row n sz f) = RowIs h n sz f u := rfl
theorem fz1_agg (h : HS) (u : SV) (l : List SV) : fz1 h u (.agg l) = fzA h l u := rfl
theorem FzT_tup (h : HS) (u : SV) (l : List SV) : FzT h u (.tup l) = fzU h l u := rfl
theorem OwnT_tup (h : HS) (ty : TypeId) (us vs : List SV) : OwnT h ty (.tup us) (.tup vs) = OwnL h ty us vs := rfl
theorem OwnL_row (h : HS) (ty : TypeId) (u : SV) (us vs : List SV) (n sz : Nat) (f : Nat → Nat → SV) : OwnL h ty (u :: us) (.row n sz f :: vs) = (IsVec h ty n sz f u ∧ us = vs ∧ FlL vs) := rfl
theorem IsVec_vec (h : HS) (ty : TypeId) (n sz : Nat) (f : Nat → Nat → SV) (id ver : Nat) : IsVec h ty n sz f (.vec id ver) = VcIs ver ty n sz f (getV h.vecs id) := rfl
theorem takeL_row (M : Nat) (ty : TypeId) (vs : List SV) (n sz : Nat) (f : Nat → Nat → SV) : takeL M ty (.row n sz f :: vs) = (.vec M 0 :: vs, .live 0 ty sz n f) := rfl
theorem takeT_row (M : Nat) (ty : TypeId) (n sz : Nat) (f : Nat → Nat → SV) : takeT M ty (.row n sz f) = (.vec M 0, .live 0 ty sz n f) := rfl
theorem takeT_tup (M : Nat) (ty : TypeId) (l : List SV) : takeT M ty (.tup l) = (.tup (takeL M ty l).1, (takeL M ty l).2) := rfl
theorem mapS_1 (f : BaseF) (x : Option (Nat × BaseF)) : mapS (some f) x = some (lendS f) := rfl
theorem mapS_2 (ty : Nat) (f : BaseF) : mapS none (some (ty, f)) = some (lendO ty f) := rfl
theorem mapS_3 : mapS none none = none := rfl
theorem rStN_f (T : Nat → Option TI) (h : HS) (ti : TI) (x y : SV) : rStoreN T h ti x false y = rStoreO h ti x y (hasSl ti.zero) := rfl
def oStN (o : Option TI) (e : Nat) (h : HS) (ti : TI) (x : SV) : Res := match o with
  | some te => skipAnd (0 < te.size) (rStore ti { h with vecs := snocV h.vecs (.live 0 e te.size 0 (fun _ _ => .any)) } x (.vec (lenV h.vecs) 0))
  | none => .bad
theorem rStN_t (T : Nat → Option TI) (h : HS) (e : Nat) (agg ifc : Bool) (size bytes : Nat) (zero : List ZC) (eq : Option (List LK)) (fag : List Bool) (x y : SV) : rStoreN T h ⟨.slice e, agg, ifc, size, bytes, zero, eq, fag⟩ x true y = oStN (T e) e h ⟨.slice e, agg, ifc, size, bytes, zero, eq, fag⟩ x := rfl
theorem rNil_e (h : HS) (e : Nat) (agg ifc : Bool) (size bytes : Nat) (zero : List ZC) (eq : Option (List LK)) (fag : List Bool) (n z : Nat) (f : Nat → Nat → SV) : rEqNil (some ⟨.slice e, agg, ifc, size, bytes, zero, eq, fag⟩) .eql (.row n z f) h = .fork (n = 0) (.bool true) (.bool false) h := rfl
theorem rNil_n (h : HS) (e : Nat) (agg ifc : Bool) (size bytes : Nat) (zero : List ZC) (eq : Option (List LK)) (fag : List Bool) (n z : Nat) (f : Nat → Nat → SV) : rEqNil (some ⟨.slice e, agg, ifc, size, bytes, zero, eq, fag⟩) .neq (.row n z f) h = .fork (n = 0) (.bool false) (.bool true) h := rfl
theorem rEqF_f (op : BinOp) (q : Bool) (h : HS) (agg ifc : Bool) (size bytes : Nat) (zero : List ZC) (eq : Option (List LK)) (fag : List Bool) : rEqF (some ⟨.func, agg, ifc, size, bytes, zero, eq, fag⟩) op q h = neO op q h := rfl
theorem rBin2_func (ti : Option TI) (c : Bool) (op : BinOp) (g : Nat) (caps : List SV) (h : HS) : rBin2 ti c op (.func g caps) .nilf h = rEqF ti op false h := rfl
theorem rBin2_meth (ti : Option TI) (c : Bool) (op : BinOp) (g : Nat) (caps : List SV) (h : HS) : rBin2 ti c op (.meth g caps) .nilf h = rEqF ti op false h := rfl
theorem rBin2_nilf (ti : Option TI) (op : BinOp) (h : HS) : rBin2 ti true op .nilf .nilf h = rEqF ti op true h := rfl
theorem rCallN_0 (F : Nat → Bool) (h : HS) (f : SV) (args : List SV) : rCallN F h none f args = rCall F h f args := rfl
theorem rCallN_1 (F : Nat → Bool) (h : HS) (e : TypeId) (sz g : Nat) (args : List SV) : rCallN F h (some (e, sz)) (.func g []) args = if F g then .callN (0 < sz) g (putLast args (.vec (lenV h.vecs) 0)) { h with vecs := snocV h.vecs (.live 0 e sz 0 (fun _ _ => .any)) } else .bad := rfl
theorem lastN_nil (T : Nat → Option TI) (tys : List TypeId) : lastN T [] tys = none := by cases tys <;> rfl
theorem lastN_1 (T : Nat → Option TI) (x : Operand) (ty : TypeId) : lastN T [x] [ty] = nilE T x ty := rfl
theorem lastN_2 (T : Nat → Option TI) (x y : Operand) (l : List Operand) (ty : TypeId) (k : List TypeId) : lastN T (x :: y :: l) (ty :: k) = lastN T (y :: l) k := rfl
def nilE2 (T : Nat → Option TI) : Option TI → Option (TypeId × Nat)
  | some { kind := .slice e, .. } => match T e with
    | some { kind := .slice _, size := sz, .. } => some (e, sz)
    | _ => none
  | _ => none
def nilE1 (T : Nat → Option TI) (b : Bool) (ty : TypeId) : Option (TypeId × Nat) := match b with
  | false => none
  | true => nilE2 T (T ty)
def nilE3 (e : TypeId) : Option TI → Option (TypeId × Nat)
  | some { kind := .slice _, size := sz, .. } => some (e, sz)
  | _ => none
theorem nilE_1 (T : Nat → Option TI) (x : Operand) (ty : TypeId) : nilE T x ty = nilE1 T (isNilSl x) ty := rfl
theorem nilE1_f (T : Nat → Option TI) (ty : TypeId) : nilE1 T false ty = none := rfl
theorem nilE1_t (T : Nat → Option TI) (ty : TypeId) : nilE1 T true ty = nilE2 T (T ty) := rfl
theorem nilE2_s (T : Nat → Option TI) (e : TypeId) (agg ifc : Bool) (size bytes : Nat) (zero : List ZC) (eq : Option (List LK)) (fag : List Bool) : nilE2 T (some ⟨.slice e, agg, ifc, size, bytes, zero, eq, fag⟩) = nilE3 e (T e) := rfl
theorem nilE3_oth (e : TypeId) (agg ifc : Bool) (size bytes : Nat) (zero : List ZC) (eq : Option (List LK)) (fag : List Bool) : nilE3 e (some ⟨.other, agg, ifc, size, bytes, zero, eq, fag⟩) = none := rfl
theorem nilE3_int (e : TypeId) (k : IntKind) (agg ifc : Bool) (size bytes : Nat) (zero : List ZC) (eq : Option (List LK)) (fag : List Bool) : nilE3 e (some ⟨.int k, agg, ifc, size, bytes, zero, eq, fag⟩) = none := rfl
theorem nilE3_boo (e : TypeId) (agg ifc : Bool) (size bytes : Nat) (zero : List ZC) (eq : Option (List LK)) (fag : List Bool) : nilE3 e (some ⟨.bool, agg, ifc, size, bytes, zero, eq, fag⟩) = none := rfl
theorem nilE3_fun (e : TypeId) (agg ifc : Bool) (size bytes : Nat) (zero : List ZC) (eq : Option (List LK)) (fag : List Bool) : nilE3 e (some ⟨.func, agg, ifc, size, bytes, zero, eq, fag⟩) = none := rfl
theorem nilE3_str (e : TypeId) (o : List (Nat × Nat)) (agg ifc : Bool) (size bytes : Nat) (zero : List ZC) (eq : Option (List LK)) (fag : List Bool) : nilE3 e (some ⟨.struct o, agg, ifc, size, bytes, zero, eq, fag⟩) = none := rfl
theorem nilE3_arr (e : TypeId) (m e2 : Nat) (agg ifc : Bool) (size bytes : Nat) (zero : List ZC) (eq : Option (List LK)) (fag : List Bool) : nilE3 e (some ⟨.array m e2, agg, ifc, size, bytes, zero, eq, fag⟩) = none := rfl
theorem nilE3_map (e : TypeId) (m e2 : Nat) (agg ifc : Bool) (size bytes : Nat) (zero : List ZC) (eq : Option (List LK)) (fag : List Bool) : nilE3 e (some ⟨.map m e2, agg, ifc, size, bytes, zero, eq, fag⟩) = none := rfl
theorem isNil_tmp (i : Nat) : isNilSl (.tmp i) = false := rfl
theorem isNil_func (i : Nat) : isNilSl (.func i) = false := rfl
theorem isNil_nil : isNilSl (.const (.slice none 0 0)) = true := rfl
theorem isNil_int (k : IntKind) (n : Int) : isNilSl (.const (.int k n)) = false := rfl
theorem isNil_bool (b : Bool) : isNilSl (.const (.bool b)) = false := rfl
theorem isNil_string (b : ByteArray) : isNilSl (.const (.string b)) = false := rfl
theorem isNil_nilf  : isNilSl (.const (.nilFunc)) = false := rfl
theorem isNil_nili  : isNilSl (.const (.nilIface)) = false := rfl
theorem isNil_nilp  : isNilSl (.const (.pointer none)) = false := rfl
theorem isNil_agg (cs : Array Value) : isNilSl (.const (.agg cs)) = false := rfl
theorem intR_lit (n sz : Nat) (z : Nat → Nat → Int) : IntR n sz (fun i j => .int .i64 (z i j)) = True := eq_true fun _ _ _ _ => rfl
theorem intK_lit (k : IntKind) (n sz : Nat) (z : Nat → Nat → Int) : IntK k n sz (fun i j => .int k (z i j)) = True := eq_true fun _ _ _ _ => rfl
theorem rBuiltin_min (T : Nat → Option TI) (h : HS) (tys : List TypeId) (x y : SV) : rBuiltin T h .min tys [x, y] = rMin x y h := rfl
theorem rMin_i (k k2 : IntKind) (x y : Int) (h : HS) : rMin (.int k x) (.int k2 y) h = if k = k2 then .val True (.int k (min x y)) h else .bad := rfl
theorem rBuiltin_rec (T : Nat → Option TI) (h : HS) : rBuiltin T h .recover [] [] = .bad := rfl
theorem rowSz_vec (id ver : Nat) : rowSz (.vec id ver) = 0 := rfl
theorem iv_int (k : IntKind) (n : Int) : iv (.int k n) = n := rfl
def oRange (x : SV) (h : HS) : Option TI → Res
  | some ti => rRange ti x h
  | none => .bad
theorem opRes_range (T : Nat → Option TI) (F : Nat → Bool) (t : List SV) (h : HS) (dst : Option Nat) (ty : TypeId) (pos : String) (aft : Array Edge) (g : Option (Nat × Bool)) (ty2 : TypeId) (x : Operand) : opRes T F t h ⟨dst, .range ty2 x, ty, pos, aft, g⟩ = oRange (ev t x) h (T ty2) := rfl
theorem opRes_next (T : Nat → Option TI) (F : Nat → Bool) (t : List SV) (h : HS) (dst : Option Nat) (ty : TypeId) (pos : String) (aft : Array Edge) (g : Option (Nat × Bool)) (x : Operand) : opRes T F t h ⟨dst, .next x false, ty, pos, aft, g⟩ = rNext (ev t x) h := rfl
theorem opRes_entry (T : Nat → Option TI) (F : Nat → Bool) (t : List SV) (h : HS) (dst : Option Nat) (ty : TypeId) (pos : String) (aft : Array Edge) (g : Option (Nat × Bool)) (x : Operand) : opRes T F t h ⟨dst, .entry x, ty, pos, aft, g⟩ = rEntry (ev t x) h := rfl
theorem rRange_l (k v : Nat) (agg ifc : Bool) (size bytes : Nat) (zero : List ZC) (eq : Option (List LK)) (fag : List Bool) (h : HS) (nm : Nat) : rRange ⟨.map k v, agg, ifc, size, bytes, zero, eq, fag⟩ (.mapp nm) h = rRangeM nm h (getB h.blks nm) := rfl
theorem rRangeM_l (nm : Nat) (h : HS) (a b : TypeId) (c : Bool) (d : List LK) (e : Bool) (f : List LK) (es : List (List Int × List Int)) : rRangeM nm h (.mp ⟨a, b, c, d, e, f, es, none⟩) = .val True (.ptr (lenB h.blks) 0) { h with blks := snocB h.blks (.mp (itS (nm, lenM es, []))) } := rfl
theorem rNext_l (nm : Nat) (h : HS) : rNext (.ptr nm 0) h = rNextI nm h (getB h.blks nm) := rfl
theorem rNextI_l (nm : Nat) (h : HS) (m s : Nat) (l : List Nat) : rNextI nm h (.mp (itS (m, s, l))) = rNextM nm m s l h (getB h.blks m) := rfl
theorem rNextM_l (nm m s : Nat) (l : List Nat) (h : HS) (a b : TypeId) (c : Bool) (d : List LK) (e : Bool) (f : List LK) (es : List (List Int × List Int)) : rNextM nm m s l h (.mp ⟨a, b, c, d, e, f, es, none⟩) = .pick (s = lenM es) s (fun i => !l.contains i) (fun i => .tup (.bool true :: entS ⟨a, b, c, d, e, f, es, none⟩ i)) (fun i => { h with blks := setB h.blks nm (.mp (itS (m, s, i :: l))) }) (.tup [.bool false]) h := rfl
theorem rEntry_l (nm : Nat) (h : HS) : rEntry (.ptr nm 0) h = rEntI h (getB h.blks nm) := rfl
theorem rEntI_l (h : HS) (m s i : Nat) (l : List Nat) : rEntI h (.mp (itS (m, s, i :: l))) = rEntM i s h (getB h.blks m) := rfl
theorem rEntM_l (i s : Nat) (h : HS) (a b : TypeId) (c : Bool) (d : List LK) (e : Bool) (f : List LK) (es : List (List Int × List Int)) : rEntM i s h (.mp ⟨a, b, c, d, e, f, es, none⟩) = .val (s = lenM es ∧ i < s) (.tup (entS ⟨a, b, c, d, e, f, es, none⟩ i)) h := rfl
theorem rNil_ve (h : HS) (e : Nat) (agg ifc : Bool) (size bytes : Nat) (zero : List ZC) (eq : Option (List LK)) (fag : List Bool) (a b : Nat) : rEqNil (some ⟨.slice e, agg, ifc, size, bytes, zero, eq, fag⟩) .eql (.vec a b) h = vNil (.bool true) (.bool false) b (nOf (getV h.vecs a)) h (getV h.vecs a) := rfl
theorem rNil_vn (h : HS) (e : Nat) (agg ifc : Bool) (size bytes : Nat) (zero : List ZC) (eq : Option (List LK)) (fag : List Bool) (a b : Nat) : rEqNil (some ⟨.slice e, agg, ifc, size, bytes, zero, eq, fag⟩) .neq (.vec a b) h = vNil (.bool false) (.bool true) b (nOf (getV h.vecs a)) h (getV h.vecs a) := rfl
theorem rNil_ce (h : HS) (e : Nat) (agg ifc : Bool) (size bytes : Nat) (zero : List ZC) (eq : Option (List LK)) (fag : List Bool) (a b c d n : Nat) (x : Bool) : rEqNil (some ⟨.slice e, agg, ifc, size, bytes, zero, eq, fag⟩) .eql (.vcut a b c d n x) h = vNil (.bool true) (.bool false) b n h (getV h.vecs a) := rfl
theorem rNil_cn (h : HS) (e : Nat) (agg ifc : Bool) (size bytes : Nat) (zero : List ZC) (eq : Option (List LK)) (fag : List Bool) (a b c d n : Nat) (x : Bool) : rEqNil (some ⟨.slice e, agg, ifc, size, bytes, zero, eq, fag⟩) .neq (.vcut a b c d n x) h = vNil (.bool false) (.bool true) b n h (getV h.vecs a) := rfl
def nilT2 (e : TypeId) : Option TI → Option (TypeId × Nat)
  | some te => if te.agg = true ∧ 2 ≤ te.size then some (e, te.size) else none
  | none => none
theorem nilT_s (T : Nat → Option TI) (e : Nat) (agg ifc : Bool) (size bytes : Nat) (zero : List ZC) (eq : Option (List LK)) (fag : List Bool) : nilT T (some ⟨.slice e, agg, ifc, size, bytes, zero, eq, fag⟩) = nilT2 e (T e) := rfl
theorem apCX_0 (e : TypeId) (te : TI) (id ver sz n : Nat) (h : HS) (v : Vc) (s : Option (Prop × Nat × Nat × (Nat → Nat → SV))) (x : Bool) : apCX e te id ver sz n h v s 0 x = apC e te id ver sz 0 n h v s := rfl
theorem apCX_f (e : TypeId) (te : TI) (id ver sz n : Nat) (h : HS) (v : Vc) (s : Option (Prop × Nat × Nat × (Nat → Nat → SV))) (lo : Nat) : apCX e te id ver sz n h v s lo false = apC e te id ver sz lo n h v s := by cases lo <;> rfl
attribute [go_sem] run.eq_1 run.eq_2 run.eq_3 run.eq_4 run.eq_5 run.eq_6 run.eq_7 run.eq_8 run.eq_9 run.eq_10 run.eq_11 run.eq_12 run.eq_13 run.eq_14 run.eq_15 run.eq_16 run.eq_17 run.eq_18 run.eq_19 run.eq_20 run.eq_21 leaveS.eq_2 leaveS.eq_3 condS.eq_1 exitS.eq_1 exitS.eq_2 retS.eq_1 retS.eq_2 popS.eq_1 popS.eq_3 endRS.eq_1 beginRS.eq_2 endRngS.eq_1 endRngS.eq_2 endRngS.eq_3 rngS.eq_1 rngGo.eq_2 roundS.eq_1 roundS.eq_2 specS.eq_1 specS.eq_2 inlS.eq_2 goS.eq_1 goS.eq_2 goS.eq_3 execS.eq_1 execS.eq_2 execS.eq_3 execS.eq_4 execS.eq_5 execS.eq_6 wantS.eq_1 wantS.eq_2 guardS.eq_1 guard1.eq_1 opS.eq_1 opS.eq_2 opS.eq_3 getO.eq_1 getO.eq_2 getO.eq_3 upto.eq_1 upto.eq_2 put.eq_1 put.eq_2 exitI.eq_1 exitI.eq_2 exitI.eq_3 exitI.eq_4 exitI.eq_5 exitI.eq_6 exitI.eq_7 exitI.eq_8 exitI.eq_9 rnd.eq_1 rnd.eq_2 rnd.eq_3 rnd.eq_4 rnd.eq_5 rnd.eq_6 rnd.eq_7 rnd.eq_8 rnd.eq_9 resL.eq_1 oneR.eq_1 outK.eq_1 outK.eq_2 panQ.eq_1 panQ.eq_2 stopQ.eq_1 stopQ.eq_2 resQ.eq_1 rBin2.eq_1 rBin2.eq_2 rBin2.eq_4 rBin2.eq_6 rBin2.eq_8 rBin.eq_1 rBin.eq_2 rBin.eq_3 rBin.eq_4 rBin.eq_5 rBin.eq_6 rBin.eq_7 rBin.eq_8 rBin.eq_9 rBin.eq_10 rBin.eq_11 rBin.eq_12 rEqA.eq_1 rEqA.eq_2 rEqB.eq_2 rEqI.eq_1 rEqI.eq_2 neO.eq_1 neO.eq_2 eqS.eq_1 eqS.eq_2 isConst.eq_1 ev.eq_1 ev.eq_2 ev.eq_3 ev.eq_4 svC.eq_1 svS.eq_1 svS.eq_2 svS.eq_3 svS.eq_4 svS.eq_5 svS.eq_6 svS.eq_7 svL.eq_1 svL.eq_2 nth.eq_1 nth.eq_2 nth.eq_3 upd.eq_1 upd.eq_2 upd.eq_3 takeN.eq_1 takeN.eq_2 takeN.eq_3 dropN.eq_1 dropN.eq_2 dropN.eq_3 over.eq_1 over.eq_2 ofCells.eq_1 rLoad.eq_2 nthO.eq_1 nthO.eq_2 nthO.eq_3 rUn.eq_1 rUn.eq_2 rMax.eq_1 rMin.eq_1 zeroS.eq_1 zeroS.eq_2 zeroS.eq_3 rAlloc.eq_1 zc1.eq_1 zc1.eq_2 zcs.eq_1 zcs.eq_2 fillS.eq_1 placeS.eq_1 placeA.eq_1 evP.eq_1 evP.eq_2 fin2.eq_1 fin2.eq_2 repZ.eq_1 repZ.eq_2 cellAt.eq_1 oneF.eq_1 fin3.eq_1 fin3.eq_2 rBuildSlice.eq_1 rIface.eq_1 rExtract.eq_1 zeroV.eq_1 rAssert.eq_1 evL.eq_1 evL.eq_2 catS.eq_1 catS.eq_2 pk.eq_1 pk.eq_2 rPick.eq_1 rNil.eq_1 rNil.eq_2 rNil.eq_3 rNil.eq_4 zipPut.eq_1 rCall.eq_1 rFunc.eq_1 rBuiltin.eq_2 rBuiltin.eq_3 rPanic.eq_1 evO.eq_1 evO.eq_2 rowSz.eq_1 cellsOf.eq_1 cellsOf.eq_2 cellsOf.eq_3 lenS.eq_1 lenS.eq_2 cellsF.eq_1 cellsF.eq_2 getB.eq_1 getB.eq_2 getB.eq_3 setB.eq_1 setB.eq_2 setB.eq_3 snocB.eq_1 snocB.eq_2 lenB.eq_1 lenB.eq_2 getV.eq_1 getV.eq_2 getV.eq_3 setV.eq_1 setV.eq_2 setV.eq_3 snocV.eq_1 snocV.eq_2 lenV.eq_1 lenV.eq_2 lookG.eq_1 lookG.eq_2 lookP.eq_1 lookP.eq_2 memN.eq_1 memN.eq_2 lendS.eq_1 frzA.eq_1 frzA.eq_2 frzV.eq_1 lookS.eq_1 lookS.eq_2 numb.eq_1 numb.eq_2 qGo.eq_1 qGo.eq_2 nestS.eq_2 lCall.eq_1 lCall.eq_2 lCall.eq_3 lGo.eq_1 lGo.eq_2 lGo.eq_3 goP.eq_1 goP.eq_2 gateW.eq_1 gateW.eq_2 gateG.eq_1 gate.eq_1 gate.eq_3 thenS.eq_1 planS.eq_1 planS.eq_2 planS.eq_3 planS.eq_4 drawS.eq_1 drawS.eq_2 reS1.eq_1 reS1.eq_2 reS1.eq_3 reW.eq_1 reW.eq_2 reG.eq_1 reO.eq_1 reO.eq_3 reA.eq_1 reA.eq_2 keepN.eq_1 keepN.eq_2 subX.eq_1 subX.eq_2 subBk.eq_1 subBk.eq_2 subB.eq_1 subB.eq_2 subB.eq_3 subVk.eq_1 subVk.eq_2 subVk.eq_3 subV.eq_1 subV.eq_2 subV.eq_3 subAs.eq_1 subAs.eq_2 bdAs.eq_1 bdAs.eq_2 bdB.eq_1 bdB.eq_2 bdB.eq_3 bdB.eq_4 bdV.eq_1 bdV.eq_2 bdV.eq_3 Bd.eq_1 Bd.eq_2 Bd.eq_3 Bd.eq_4 Bd.eq_5 Bd.eq_6 Bd.eq_7 Bd.eq_8 Bd.eq_9 Bd.eq_10 Bd.eq_11 Bd.eq_12 Bd.eq_13 Bd.eq_14 Bd.eq_15 Bd.eq_16 Bd.eq_17 BdL.eq_1 BdL.eq_2 slots.eq_1 slots.eq_2 slots.eq_3 resK.eq_1 resK.eq_4 dfrQ.eq_1 dfrOp.eq_1 dfrGo.eq_1 endQ.eq_1 resultQ.eq_2 rcvQ.eq_1 rcvOp.eq_1 rcvEnd.eq_1 gotS.eq_1 gotS.eq_2 noInv.eq_1 noInv.eq_2 noInv.eq_3 noInv.eq_4 noInv.eq_5 noInv.eq_6 noInv.eq_7 noInv.eq_8 noInv.eq_9 updF.eq_1 Sc.eq_1 Sc.eq_2 Sc.eq_3 Sc.eq_4 Sc.eq_5 Sc.eq_6 Sc.eq_7 ScL.eq_1 ScL.eq_2 run.eq_22 run.eq_23 run.eq_24 rnd.eq_10 rnd.eq_11 exitI.eq_10 exitI.eq_11 noInv.eq_10 noInv.eq_11 bdB2.eq_1 bdB2.eq_2 bdB2.eq_3 bdB2.eq_4 bdB2.eq_5 itB.eq_1 itB.eq_2 lenI.eq_1 execS.eq_9 lGo.eq_5 cx_rs cxn_rs rRange_l rRangeM_l rNext_l rNextI_l rNextM_l rEntry_l rEntI_l rEntM_l opRes_range opRes_next opRes_entry oRange.eq_1 apCX.eq_1 apCX_0 apCX_f apX.eq_1 argsN.eq_1 argsN.eq_2 evA.eq_1 evA.eq_2 evA.eq_3 ev1.eq_1 ev1.eq_2 nilA.eq_1 nilA.eq_2 nilT_s nthM.eq_2 nthM.eq_3 entS.eq_1 rNil_ve rNil_vn rNil_ce rNil_cn vNil.eq_1 nOf.eq_1 guardS.eq_2 gateG.eq_2 reG.eq_2 subL.eq_1 subL.eq_2 leaveS.eq_1 popS.eq_2 popR.eq_1 beginRS.eq_1 rngGo.eq_1 inlS.eq_1 resL.eq_2 resL.eq_3 resQ.eq_2 rEqB.eq_1 eqS.eq_3 rStore.eq_1 rField.eq_1 rBox.eq_1 fillS.eq_2 rAppend.eq_1 rCall.eq_2 rCall.eq_3 rFunc.eq_2 Bd.eq_18 Bd.eq_19 Bd.eq_20 Bd.eq_21 Bd_nthT ivf_lit bvf_lit boolR_lit rBuiltin.eq_1 nestS.eq_1 gate.eq_2 reO.eq_2 resK.eq_2 resK.eq_3 resultQ.eq_1 nth_setL upd_setL cx_P cx_T cx_F cx_FN cx_inl cx_G cx_plan cx_D cx_off if_true if_false eq_self decide_true decide_false Bool.true_and Bool.and_true Bool.false_and Bool.and_false Bool.or_false Bool.false_or Bool.or_true Bool.true_or Bool.not_true Bool.not_false true_and and_true and_self Int.toNat_natCast Nat.zero_add Option.isNone_none Option.isSome_some List.toList_toArray List.length_cons List.length_nil List.append_nil List.cons_append List.nil_append opRes_move opRes_assign opRes_pick opRes_alloc opRes_box opRes_build opRes_buildSlice opRes_load opRes_store opRes_nilCheck opRes_binOp opRes_unOp opRes_convert opRes_makeInterface opRes_makeFunc opRes_slice opRes_makeSlice opRes_fieldAddr opRes_indexAddr opRes_typeAssert opRes_extract opRes_call opRes_callB opRes_panic opRes_defer opRes_makeMap opRes_lookup opRes_mapUpdate opRes_insert opRes_field opRes_index oSliceA.eq_1 oIdxA.eq_1 oCopy2.eq_1 slA.eq_1 oAlloc.eq_1 oBuildA.eq_1 oBuildSl.eq_1 oBuildSl2.eq_1 oLoad.eq_1 oStore.eq_1 oConv.eq_1 oIface.eq_1 oSlice2.eq_1 oMake2.eq_1 oField.eq_1 oIndex2.eq_1 oAssert.eq_1 mMk_m mLk_m mUp_m rLookup_m rUpdate_m keyKs_i keyKs_a rFld_s fldO_s rLen_m mLen.eq_1 mMk2.eq_1 mLk2.eq_1 mUp2.eq_1 mFd.eq_1 rLookB.eq_1 rUpdB.eq_1 rMakeMap.eq_1 mkMp.eq_1 gLook.eq_1 gLook.eq_2 gt.eq_2 gt.eq_3 gt.eq_1 svN.eq_1 svN.eq_2 svsN.eq_1 svsN.eq_2 valS.eq_1 b2i.eq_1 numK.eq_1 numK.eq_2 numK.eq_3 numV.eq_1 numV.eq_2 isI.eq_1 isI.eq_2 valKs.eq_1 valKs.eq_2 valKs.eq_3 gtB.eq_1 gtB.eq_2 gtB.eq_3 oBuild_a oBuild_s rBuild_a rBuild_s oSlice_s oSlice_a oIdx_a rSlA_p rIdx_a rBuiltin_copy oCopy_s cxn_P cxn_T cxn_F cxn_FN cxn_inl cxn_G cxn_plan cxn_D cxn_off mapN.eq_1 mapN.eq_2 bareS.eq_1 bareR.eq_1 retN frzT_tup frzT_agg frzT_vec frzT_row frzT_int frzT_bool rCopy.eq_1 rCopy.eq_2 cpyB.eq_1 cpyV.eq_1 rBuiltin.eq_5 cpB.eq_1 cpB.eq_2 rNil_be rNil_bn rBoxO_s rBoxO_n ownN_c dnl1_c renS.eq_19 renS.eq_20 renS.eq_21 renS.eq_22 Bd.eq_22 rBoxB.eq_1 rBoxB.eq_2 ownM.eq_1 ownM.eq_2 ownN.eq_1 dnlM.eq_1 dnlM.eq_2 hasSl.eq_1 hasSl.eq_2 hasSl.eq_3 rStoreO.eq_1 rStoreO.eq_2 apN.eq_1 srcOf.eq_5 rAppend.eq_3 isN_any ownC_any ownS_any dnl_any isN_int ownC_int ownS_int dnl_int isN_bool ownC_bool ownS_bool dnl_bool isN_str ownC_str ownS_str dnl_str isN_ptr ownC_ptr ownS_ptr dnl_ptr isN_nilp ownC_nilp ownS_nilp dnl_nilp isN_nils ownS_nils dnl_nils isN_rptr ownC_rptr ownS_rptr dnl_rptr isN_row ownC_row ownS_row dnl_row isN_vec ownC_vec ownS_vec dnl_vec isN_vptr ownC_vptr ownS_vptr dnl_vptr isN_func ownC_func ownS_func dnl_func isN_nilf ownC_nilf ownS_nilf dnl_nilf isN_iface ownC_iface ownS_iface dnl_iface isN_nili ownC_nili ownS_nili dnl_nili isN_agg ownS_agg isN_tup ownC_tup ownS_tup dnl_tup isN_yield ownC_yield ownS_yield dnl_yield isN_meth ownC_meth ownS_meth dnl_meth isN_vcut ownC_vcut dnl_vcut isN_bsl ownC_bsl ownS_bsl dnl_bsl isN_mapp ownC_mapp ownS_mapp dnl_mapp ownS_vcut rebV.eq_1 ownC_agg ownC_nils dnl_agg frzF_nils rLen_nils rNil_ne rNil_nn oMake_s rMake.eq_1 rSl.eq_1 rSl.eq_2 rSl.eq_3 rSlR.eq_1 rSlG.eq_1 hiOk.eq_1 hiOk.eq_2 rSliceV.eq_1 rSliceV.eq_2 sliV.eq_1 sliC.eq_1 cutR.eq_1 intO.eq_1 intO.eq_2 maxO.eq_1 maxO.eq_2 srcOf.eq_1 srcOf.eq_2 srcOf.eq_3 srcOf.eq_4 srcV.eq_1 srcC.eq_1 srcB.eq_1 apV.eq_1 apC.eq_1 rAppend.eq_2 rClear.eq_1 rClear.eq_2 clrV.eq_1 clrW.eq_1 sliC_t sliC_f cIndex.eq_1 rIndex_c rIndex_b rLen_c rLen_b oIndex_s oIndex_a rIndex_r vIndex.eq_1 renS.eq_1 renS.eq_2 renS.eq_3 renS.eq_4 renS.eq_5 renS.eq_6 renS.eq_7 renS.eq_8 renS.eq_9 renS.eq_10 renS.eq_11 renS.eq_12 renS.eq_13 renS.eq_14 renS.eq_15 renS.eq_16 renS.eq_17 renS.eq_18 renL.eq_1 renL.eq_2 renK.eq_1 renK.eq_2 renK.eq_3 renK.eq_4 renC.eq_1 renC.eq_2 renO.eq_1 renO.eq_2 nmN.eq_2 nmN.eq_3 matB.eq_1 matV.eq_1 matB.eq_2 matV.eq_2 bdO.eq_1 bdO.eq_2 putB_c putV_c putB_n putV_n rIndex_v rIndex_a rLen_r vLen.eq_1 rLen_v rConv_i rSlice_a rSlice_b rSlice_c bMv2.eq_1 bMv.eq_1 rMove_nil rMove_tmp rMove_func rMove_int svC_int rMove_bool svC_bool rMove_string svC_string rMove_nilf svC_nilf rMove_nili svC_nili rMove_nilp svC_nilp svC_nils rMove_agg isConst_tmp isConst_func frzF_any Fl1_any Fl_any OwnL_any takeL_any OwnT_any IsVec_any fz0_any fz1_any FzT_any cellsOf_int frzF_int Fl1_int Fl_int OwnL_int takeL_int OwnT_int IsVec_int fz0_int fz1_int FzT_int subX_int cellsOf_bool frzF_bool Fl1_bool Fl_bool OwnL_bool takeL_bool OwnT_bool IsVec_bool fz0_bool fz1_bool FzT_bool subX_bool cellsOf_str frzF_str Fl1_str Fl_str OwnL_str takeL_str OwnT_str IsVec_str fz0_str fz1_str FzT_str subX_str cellsOf_ptr Fl1_ptr Fl_ptr OwnL_ptr takeL_ptr OwnT_ptr IsVec_ptr fz0_ptr fz1_ptr FzT_ptr subX_ptr cellsOf_nilp frzF_nilp Fl1_nilp Fl_nilp OwnL_nilp takeL_nilp OwnT_nilp IsVec_nilp fz0_nilp fz1_nilp FzT_nilp subX_nilp cellsOf_nils Fl1_nils Fl_nils OwnL_nils takeL_nils OwnT_nils IsVec_nils fz0_nils fz1_nils FzT_nils subX_nils cellsOf_rptr frzF_rptr Fl1_rptr Fl_rptr OwnL_rptr takeL_rptr OwnT_rptr IsVec_rptr fz0_rptr fz1_rptr FzT_rptr subX_rptr cellsOf_row frzF_row Fl1_row Fl_row fz1_row FzT_row cellsOf_vec Fl1_vec Fl_vec OwnL_vec takeL_vec OwnT_vec fz0_vec fz1_vec FzT_vec subX_vec cellsOf_vptr frzF_vptr Fl1_vptr Fl_vptr OwnL_vptr takeL_vptr OwnT_vptr IsVec_vptr fz0_vptr fz1_vptr FzT_vptr subX_vptr cellsOf_func frzF_func Fl1_func Fl_func OwnL_func takeL_func OwnT_func IsVec_func fz0_func fz1_func FzT_func subX_func cellsOf_nilf frzF_nilf Fl1_nilf Fl_nilf OwnL_nilf takeL_nilf OwnT_nilf IsVec_nilf fz0_nilf fz1_nilf FzT_nilf subX_nilf cellsOf_iface frzF_iface Fl1_iface Fl_iface OwnL_iface takeL_iface OwnT_iface IsVec_iface fz0_iface fz1_iface FzT_iface subX_iface cellsOf_nili frzF_nili Fl1_nili Fl_nili OwnL_nili takeL_nili OwnT_nili IsVec_nili fz0_nili fz1_nili FzT_nili subX_nili Fl_agg OwnL_agg takeL_agg OwnT_agg IsVec_agg fz0_agg FzT_agg subX_agg frzF_tup OwnL_tup takeL_tup IsVec_tup fz0_tup fz1_tup subX_tup cellsOf_yield frzF_yield Fl1_yield Fl_yield OwnL_yield takeL_yield OwnT_yield IsVec_yield fz0_yield fz1_yield FzT_yield subX_yield cellsOf_meth frzF_meth Fl1_meth Fl_meth OwnL_meth takeL_meth OwnT_meth IsVec_meth fz0_meth fz1_meth FzT_meth subX_meth cellsOf_vcut Fl1_vcut Fl_vcut OwnL_vcut takeL_vcut OwnT_vcut IsVec_vcut fz0_vcut fz1_vcut FzT_vcut subX_vcut cellsOf_bsl frzF_bsl Fl1_bsl Fl_bsl OwnL_bsl takeL_bsl OwnT_bsl IsVec_bsl fz0_bsl fz1_bsl FzT_bsl subX_bsl cellsOf_mapp frzF_mapp Fl1_mapp Fl_mapp OwnL_mapp takeL_mapp OwnT_mapp IsVec_mapp fz0_mapp fz1_mapp FzT_mapp subX_mapp subBk_mp bdB.eq_5 dfrQ.eq_2 subBk_loop wantS_tf gateW_tf reW_tf wantS_ft gateW_ft reW_ft oneR_0 oneR_2 zipPut_0 zipPut_1 rBS_s rLoad_ptr rLoad_vptr bLoad.eq_1 vLoad.eq_1 frzF_vec frzF_ptr frzF_vcut frzC.eq_1 frzF_agg Fl1_agg Fl_tup fz0_row fz1_agg FzT_tup OwnT_tup OwnL_row IsVec_vec takeL_row takeT_row takeT_tup VcIs.eq_1 mapF.eq_1 mapF.eq_2 frzB.eq_1 lendR.eq_1 lendO.eq_1 lendRO.eq_1 quietR.eq_1 aGo.eq_1 lookO.eq_1 lookO.eq_2 FlL.eq_1 FlL.eq_2 retQ retO retF retP VcR.eq_1 CutR.eq_1 RowIs.eq_1 RowIs.eq_2 fzL.eq_1 fzL.eq_2 fzA.eq_1 fz1L.eq_1 fz1L.eq_2 fzU.eq_1 frzF_ite skipAnd.eq_1 mapS_1 mapS_2 mapS_3 rStN_f oStN.eq_1 rStN_t rNil_e rNil_n rEqF_f rBin2_func rBin2_meth rBin2_nilf rBin3.eq_1 rBin3.eq_2 execS.eq_7 execS.eq_8 putLast.eq_1 putLast.eq_2 putLast.eq_3 rCallN_0 rCallN_1 lastN_nil lastN_1 lastN_2 nilE_1 nilE1_f nilE1_t nilE2_s nilE3.eq_1 nilE3_oth nilE3_int nilE3_boo nilE3_fun nilE3_str nilE3_arr nilE3_map isNil_tmp isNil_func isNil_nil isNil_int isNil_bool isNil_string isNil_nilf isNil_nili isNil_nilp isNil_agg intR_lit intK_lit rBuiltin_min rMin_i rBuiltin_rec rowSz_vec iv_int nilT2.eq_1
attribute [go_sem ↓] cat_setL spl_true spl_false
end Go.Eng
end

/- From what the statement says of its arguments to symbolic values. -/
section
namespace Go.Eng
open Go Go.RowKit Go.ChangeShapes Go.WideShapes

/-- What a cell is: a number, a bool, or a slice of such cells. -/
inductive Sh where
  | int (k : IntKind)
  | bool
  | sl (e : List Sh)
def shF (P : Program) (rec : Nat → Option (List Sh)) : List Field → Nat → Option (List Sh)
  | [], _ => some []
  | f :: fs, off => if f.offset = off then match rec f.type with
    | some a => if a.length = P.cellsOf f.type then match shF P rec fs (off + a.length) with
      | some b => some (a ++ b)
      | none => none
      else none
    | none => none
    else none
def repS (s : List Sh) : Nat → List Sh
  | 0 => []
  | n + 1 => s ++ repS s n
def shT (P : Program) : Nat → Nat → Option (List Sh)
  | 0, _ => none
  | d + 1, t => match P.underlying t with
    | some (.int k) => some [.int k]
    | some .bool => some [.bool]
    | some (.slice e) => match shT P d e with
      | some s => if s.length = P.cellsOf e ∧ 0 < s.length then some [.sl s] else none
      | none => none
    | some (.struct fs) => match shF P (shT P d) fs.toList 0 with
      | some s => if s.length = P.cellsOf t then some s else none
      | none => none
    | some (.array n e) => match shT P d e with
      | some s => if s.length = P.cellsOf e ∧ (repS s n).length = P.cellsOf t then some (repS s n) else none
      | none => none
    | _ => none
inductive Typ : Sh → SV → Prop
  | int {k : IntKind} {n : Int} (h : (Lit.int k n).wf = true) : Typ (.int k) (.int k n)
  | bool (b : Bool) : Typ .bool (.bool b)
  | sl {e : List Sh} {n : Nat} {f : Nat → Nat → SV} (hn : n ≤ maxLen) (h : ∀ i j sh, i < n → e[j]? = some sh → Typ sh (f i j)) : Typ (.sl e) (.row n e.length f)
def Env.emp : Env := { nb := 0, rho := id, nv := 0, val := fun _ _ => none, own := fun _ => none }
theorem emp_rel (w : World) : RelH Env.emp ⟨[], []⟩ w :=
  ⟨rfl, rfl, fun nm ty c h => by simp [getB] at h, fun id a b c d e h => by simp [getV] at h, fun b t hb => by simp [Env.emp] at hb, fun nm st pend fid t params assign body hb => by simp [getB] at hb, fun nm m hb => by simp [getB] at hb⟩
/-- Cells that read as shapes are denoted. -/
def CellsD (w : World) (shs : List Sh) (cs : List Value) : Prop :=
  cs.length = shs.length ∧ ∃ xs : List SV, xs.length = shs.length ∧ ∀ (j : Nat) (a : SV) (v : Value) (sh : Sh), xs[j]? = some a → cs[j]? = some v → shs[j]? = some sh → Den Env.emp w a v ∧ Typ sh a ∧ v.oneCell' = true
theorem CellsD.app {w : World} {s1 s2 : List Sh} {c1 c2 : List Value} (h1 : CellsD w s1 c1) (h2 : CellsD w s2 c2) : CellsD w (s1 ++ s2) (c1 ++ c2) := by
  obtain ⟨a1, x1, b1, d1⟩ := h1
  obtain ⟨a2, x2, b2, d2⟩ := h2
  refine ⟨by simp [a1, a2], x1 ++ x2, by simp [b1, b2], fun j a v sh ha hv hs => ?_⟩
  by_cases hj : j < s1.length
  · rw [List.getElem?_append_left (by omega)] at ha hv hs
    exact d1 j a v sh ha hv hs
  · rw [List.getElem?_append_right (by omega)] at ha hv hs
    rw [b1] at ha; rw [a1] at hv
    exact d2 _ a v sh ha hv hs
section
variable {H : Type} {enc : TypeId × Value → H} {P : Program} {w : World} {held : Bool}
theorem fields_ok {rec : Nat → Option (List Sh)} {n : Nat} {cs : List Value} (hrec : ∀ t s c x, rec t = some s → DataW.trod enc P w 0 (fun _ => true) held n t c = some x → CellsD w s c) :
    ∀ (fs : List Field) (off : Nat) (s : List Sh), shF P rec fs off = some s → (∀ (i : Nat) (f : Field), fs[i]? = some f → ∃ x, DataW.trod enc P w 0 (fun _ => true) held n f.type ((cs.drop f.offset).take (P.cellsOf f.type)) = some x) → CellsD w s ((cs.drop off).take s.length)
  | [], off, s, h, _ => by simp only [shF, Option.some.injEq] at h; subst h; exact ⟨by simp, [], rfl, fun j a v sh ha => by simp at ha⟩
  | f :: fs, off, s, h, hx => by
    simp only [shF] at h
    split at h
    · rename_i ho
      split at h
      · rename_i a ha
        split at h
        · rename_i hl
          split at h
          · rename_i b hb
            cases h
            obtain ⟨x, hx0⟩ := hx 0 f rfl
            have h1 := hrec _ _ _ _ ha hx0
            have h2 := fields_ok hrec fs _ _ hb (fun i f hf => hx (i + 1) f (by simpa using hf))
            rw [ho, ← hl] at h1
            have e : (cs.drop off).take (a ++ b).length = (cs.drop off).take a.length ++ (cs.drop (off + a.length)).take b.length := by
              rw [List.length_append, List.take_add, List.drop_drop]
            rw [e]
            exact h1.app h2
          · cases h
        · cases h
      · cases h
    · cases h
theorem arr_ok {s : List Sh} {cs : List Value} : ∀ (n off : Nat), (∀ i, i < n → CellsD w s ((cs.drop (off + i * s.length)).take s.length)) → CellsD w (repS s n) ((cs.drop off).take (repS s n).length)
  | 0, off, _ => ⟨by simp [repS], [], rfl, fun j a v sh ha => by simp at ha⟩
  | n + 1, off, h => by
    have h1 := h 0 (by omega)
    have h2 := arr_ok n (off + s.length) (fun i hi => by have := h (i + 1) (by omega); rw [Nat.succ_mul] at this; rw [show off + s.length + i * s.length = off + (i * s.length + s.length) by omega]; exact this)
    have e : (cs.drop off).take (repS s (n + 1)).length = (cs.drop off).take s.length ++ (cs.drop (off + s.length)).take (repS s n).length := by
      simp only [repS]
      rw [List.length_append, List.take_add, List.drop_drop]
    rw [e]
    simp only [repS]
    exact CellsD.app (by simpa using h1) h2

theorem trod_den : ∀ (d : Nat) (t : Nat) (cs : List Value) (fuel : Nat) (x : DataW H × List MemPlace) (shs : List Sh), shT P d t = some shs → DataW.trod enc P w 0 (fun _ => true) held fuel t cs = some x → CellsD w shs cs := by
  intro d
  induction d with
  | zero => intro t cs fuel x shs h; simp [shT] at h
  | succ d ih =>
    intro t cs fuel x shs h hx
    simp only [shT] at h
    have one : ∀ (a : SV) (v : Value) (sh : Sh), Den Env.emp w a v → Typ sh a → v.oneCell' = true → CellsD w [sh] [v] := fun a v sh h1 h2 h3 => ⟨rfl, [a], rfl, fun j b u s hb hu hs => by
      cases j with
      | zero => simp at hb hu hs; subst hb hu hs; exact ⟨h1, h2, h3⟩
      | succ j => simp at hb⟩
    split at h
    · rename_i k hk
      cases h
      obtain ⟨n, rfl, _, hw⟩ := DataW.trod_int hk hx
      exact one _ _ _ (.int k n) (.int hw) rfl
    · rename_i hk
      cases h
      obtain ⟨b, rfl, _⟩ := DataW.trod_bool hk hx
      exact one _ _ _ (.bool b) (.bool b) rfl
    · rename_i e hk
      split at h
      · rename_i s hs
        split at h
        · rename_i hl
          cases h
          rcases DataW.trod_slice hk hx with ⟨rfl, _⟩ | ⟨a, len, cap, elems, rest, n, _, rfl, _, _, hlc, hcap, hlen, hel, _, _⟩
          · exact one (.row 0 s.length fun _ _ => .any) _ _ (.rowZ _ _) (.sl (Nat.zero_le _) (fun i j sh hi => by omega)) rfl
          · by_cases h0 : len = 0
            · subst h0
              exact one (.row 0 s.length fun _ _ => .any) _ _ (.rowZ _ _) (.sl (Nat.zero_le _) (fun i j sh hi => by omega)) rfl
            · have hi : ∀ i, ∃ xs : List SV, i < len → xs.length = s.length ∧ ∀ (j : Nat) (sh : Sh), s[j]? = some sh → ∃ a' v, xs[j]? = some a' ∧ w.cell? (a.add (i * s.length + j)) = some v ∧ Den Env.emp w a' v ∧ Typ sh a' ∧ v.oneCell' = true := by
                intro i
                by_cases hil : i < len
                · have h1 := hel i hil
                  have h2 : elems[i]? = some (elems[i]'(by omega)) := List.getElem?_eq_getElem (by omega)
                  rw [h2] at h1
                  cases hc : w.cells? 0 (a.add (i * P.cellsOf e)) (P.cellsOf e) with
                  | none => rw [hc] at h1; cases h1
                  | some cs' =>
                    rw [hc] at h1
                    obtain ⟨q1, xs, q2, q3⟩ := ih e cs' n _ s hs h1
                    refine ⟨xs, fun _ => ⟨q2, fun j sh hj => ?_⟩⟩
                    have hjl : j < s.length := (List.getElem?_eq_some_iff.1 hj).1
                    obtain ⟨_, hcl, hat⟩ := World.cells?_some hc
                    have hcj := hat j (by omega)
                    have e1 : cs'[j]? = some (cs'[j]'(by omega)) := List.getElem?_eq_getElem (by omega)
                    have e2 : xs[j]? = some (xs[j]'(by omega)) := List.getElem?_eq_getElem (by omega)
                    obtain ⟨r1, r2, r3⟩ := q3 j _ _ sh e2 e1 hj
                    rw [e1] at hcj
                    have hadd : (a.add (i * P.cellsOf e)).add j = a.add (i * s.length + j) := by
                      rw [hl.1, Addr.add_add]
                    rw [hadd] at hcj
                    exact ⟨_, _, e2, hcj, r1, r2, r3⟩
                · exact ⟨[], fun h => absurd h hil⟩
              obtain ⟨F, hF⟩ := Classical.skolem.1 hi
              have hcell : ∀ i j, i < len → j < s.length → ∃ a' v, (F i)[j]? = some a' ∧ w.cell? (a.add (i * s.length + j)) = some v ∧ Den Env.emp w a' v ∧ v.oneCell' = true := fun i j hil hj => by
                obtain ⟨_, h2⟩ := hF i hil
                obtain ⟨a', v, k1, k2, k3, _, k5⟩ := h2 j _ (List.getElem?_eq_getElem hj)
                exact ⟨a', v, k1, k2, k3, k5⟩
              have hb : a.block < w.heap.size := by
                obtain ⟨_, v, _, k2, _⟩ := hcell 0 0 (by omega) hl.2
                have := block_of_cell k2
                rwa [add_block] at this
              refine one (.row len s.length fun i j => nth (F i) j) _ _ (.row a cap (fun i j => (w.cell? (a.add (i * s.length + j))).getD undef) hb rfl hlc (fun i j hi hj => ?_) (fun i j hi hj => ?_) (fun i j hi hj => ?_)) (.sl (by omega) (fun i j sh hil hj => ?_)) rfl
              · obtain ⟨_, v, _, k2, _⟩ := hcell i j hi hj
                rw [k2]; rfl
              · obtain ⟨_, v, _, k2, _, k5⟩ := hcell i j hi hj
                rw [k2]; exact k5
              · obtain ⟨a', v, k1, k2, k3, _⟩ := hcell i j hi hj
                rw [k2, nth_eq, List.getD, k1]; exact k3
              · obtain ⟨_, h2⟩ := hF i hil
                obtain ⟨a', v, k1, _, _, k4, _⟩ := h2 j sh hj
                rw [nth_eq, List.getD, k1]; exact k4
        · cases h
      · cases h
    · rename_i fs hk
      split at h
      · rename_i s hs
        split at h
        · rename_i hl
          cases h
          obtain ⟨xs, n, _, _, hlen, hxl, hg⟩ := DataW.trod_struct hk hx
          have := fields_ok (cs := cs) (n := n) (fun t s c x h1 h2 => ih t c n x s h1 h2) fs.toList 0 shs hs (fun i f hf => by
            have hf' : fs[i]? = some f := by simpa using hf
            have hil : i < xs.length := by rw [hxl]; exact (Array.getElem?_eq_some_iff.1 hf').1
            exact ⟨xs[i], by rw [hg i f hf']; exact List.getElem?_eq_getElem hil⟩)
          rw [List.drop_zero, hl, ← hlen, List.take_length] at this
          exact this
        · cases h
      · cases h
    · rename_i n e hk
      split at h
      · rename_i s hs
        split at h
        · rename_i hl
          cases h
          obtain ⟨xs, m, _, _, hlen, hxl, hg⟩ := DataW.trod_array hk hx
          have := arr_ok (w := w) (s := s) (cs := cs) n 0 (fun i hi => by
            have h1 := hg i hi
            have hil : i < xs.length := by omega
            rw [List.getElem?_eq_getElem hil] at h1
            rw [Nat.zero_add, hl.1]
            exact ih e _ m _ s hs h1)
          rw [List.drop_zero, hl.2, ← hlen, List.take_length] at this
          exact this
        · cases h
      · cases h
    · cases h

/-- A struct, an array. -/
theorem arg_agg {r : Reach} {b : Nat} {t : TypeId} {fs : Array Field} {v : Value} {d : DataW H} {ps : List MemPlace} {shs : List Sh} (ht : P.underlying t = some (.struct fs)) (hs : shT P 12 t = some shs) (hval : Value.okWide P w r b t v) (h : DataW.Trod enc P w 0 (fun _ => true) held t v d ps) :
    ∃ xs : List SV, Den Env.emp w (.agg xs) v ∧ xs.length = shs.length ∧ ∀ (j : Nat) (a : SV) (sh : Sh), xs[j]? = some a → shs[j]? = some sh → Typ sh a := by
  obtain ⟨cs, rfl, hsz⟩ := okWide_struct ht hval
  obtain ⟨fuel, hf⟩ := h
  obtain ⟨q1, xs, q2, q3⟩ := trod_den 12 t _ fuel _ shs hs hf
  have hcl : (Value.agg cs).cells.toList = cs.toList := rfl
  rw [hcl] at q1 q3
  refine ⟨xs, .agg cs (by simpa [q2] using q1) (fun i u hu => ?_) (fun i x u hx hu => ?_), q2, fun j a sh ha hsh => ?_⟩
  · have hil : i < cs.size := (Array.getElem?_eq_some_iff.1 hu).1
    have h1 : i < shs.length := by rw [← q1]; simpa using hil
    exact (q3 i _ u _ (List.getElem?_eq_getElem (by omega)) (by simpa using hu) (List.getElem?_eq_getElem h1)).2.2
  · have hil : i < xs.length := (List.getElem?_eq_some_iff.1 hx).1
    exact (q3 i x u _ hx (by simpa using hu) (List.getElem?_eq_getElem (by omega))).1
  · have hil : j < cs.toList.length := by have := (List.getElem?_eq_some_iff.1 hsh).1; omega
    exact (q3 j a _ sh ha (List.getElem?_eq_getElem hil) hsh).2.1
theorem arg_row {r : Reach} {b : Nat} {t e : TypeId} {v : Value} {d : DataW H} {ps : List MemPlace} {s : List Sh} (ht : P.underlying t = some (.slice e)) (hs : shT P 12 t = some [.sl s]) (hval : Value.okWide P w r b t v) (h : DataW.Trod enc P w 0 (fun _ => true) held t v d ps) :
    ∃ (n : Nat) (f : Nat → Nat → SV), Den Env.emp w (.row n s.length f) v ∧ n ≤ maxLen ∧ ∀ i j sh, i < n → s[j]? = some sh → Typ sh (f i j) := by
  obtain ⟨a, len, cap, rfl⟩ := okWide_slice ht hval
  obtain ⟨fuel, hf⟩ := h
  obtain ⟨q1, xs, q2, q3⟩ := trod_den 12 t _ fuel _ _ hs hf
  match xs, q2 with
  | [x], _ =>
    obtain ⟨k1, k2, _⟩ := q3 0 x (.slice a len cap) (.sl s) rfl rfl rfl
    cases k2 with
    | @sl e n f hn hh => exact ⟨n, f, k1, hn, hh⟩

theorem trodAll_below {W W' : World} (hl : laidOutB P = true) (hb : Below W.heap.size W W') : ∀ {ts : List TypeId} {vs : List Value} {ds : List (DataW H)} {ps : List MemPlace}, (∀ t ∈ ts, P.readableRec t = true ∧ t < P.types.size) →
    DataW.TrodAll enc P W 0 (fun _ => true) true ts vs ds ps → (∀ x ∈ ps, x.block < W.heap.size) → DataW.TrodAll enc P W' 0 (fun b => decide (b < W.heap.size)) true ts vs ds ps
  | [], [], [], _, _, h, _ => h
  | t :: ts, v :: vs, d :: ds, ps, hr, ⟨p, q, h1, h2, e⟩, hlt => by
    subst e
    have := hr t (by simp)
    exact ⟨p, q, Below.trod hl this.1 this.2 h1 hb (fun x hx => hlt x (List.mem_append_left _ hx)), trodAll_below hl hb (fun t ht => hr t (List.mem_cons_of_mem _ ht)) h2 (fun x hx => hlt x (List.mem_append_right _ hx)), rfl⟩
end
/-- A law's end: it returned true, and of what was there nothing turned. -/
theorem law_end {H : Type} {enc : TypeId × Value → H} {P : Program} {f : Func} {s : ChangeSpec} {W W' : World} {args : Array Value} {ds gs : List (DataW H)} {before : List MemPlace} {tb : TypeId}
    (hl : laidOutB P = true) (hres : f.resultTypes = #[tb]) (htb : P.underlying tb = some .bool) (hpar : (f.params.toList.all fun t => P.readableRec t && decide (t < P.types.size)) = true) (hvars : s.vars = [])
    (hW : DataW.Whole enc P f.params.toList s.vars false W args.toList ds gs before) (hfn : s.fn H (ds ++ gs) = { results := [.lit (.bool true)], args := ds, vars := [] }) (hb : Below W.heap.size W W') :
    s.post enc P f false true false false W args (.bool true) W' := by
  have hW0 := hW
  obtain ⟨p, q, hA, hV, rfl, hfz, hnd⟩ := hW
  rw [hvars] at hV
  have hq : gs = [] ∧ q = [] := by
    cases gs with
    | nil => exact ⟨rfl, by simpa [DataW.TrodVars] using hV⟩
    | cons _ _ => simp [DataW.TrodVars] at hV
  obtain ⟨rfl, rfl⟩ := hq
  refine ⟨ds, [], p ++ [], [], p, [], hW0, ?_, ?_, ?_, hb.frame _, fun h => by cases h⟩
  · rw [hfn, hres]
    exact ⟨[], [], shut_bool htb true, rfl, rfl⟩
  · rw [hfn]
    exact trodAll_below hl hb (fun t ht => by have := List.all_eq_true.1 hpar t ht; simpa using this) hA (fun x hx => hW0.lt x (by simpa using hx))
  · rw [hfn, hvars]; rfl
theorem below_of {w w' : World} {E' : Env} (hx : Ext Env.emp w E' w') : Below w.heap.size w w' := ⟨hx.os, hx.tape, hx.output, hx.size, fun k hk => (hx.keep k hk rfl).2⟩
/-- The law's call, by its contract. -/
theorem law_calls {P : Program} {g : Nat} {base : List SV → Option (Prop × SV)} (hb : Base P g base) {args : List SV} {p : Prop} (hq : base args = some (p, .bool true)) (hp : p) {W : World} {vals : Array Value} (hd : DenA Env.emp W args vals) :
    Calls P g vals W fun e W' => e = .returned (.bool true) ∧ Below W.heap.size W W' := by
  obtain ⟨_, h2⟩ := hb _ _ _ hq hp
  refine (h2 Env.emp W vals (emp_rel W) hd).mono ?_
  rintro e w' ⟨o, h', E', ⟨u, rfl, hres⟩, hr', hx, hout⟩
  cases e with
  | panicked _ => exact hout.elim
  | outgrown => exact hout.elim
  | returned val =>
    rcases hres with ⟨hfl, hsd⟩ | hfz
    · have := hsd.out _ _ _ hout
      cases this
      exact ⟨rfl, below_of hx⟩
    · obtain ⟨rfl, _⟩ : u = .bool true ∧ Sc (.bool true) := hfz
      cases hout
      exact ⟨rfl, below_of hx⟩
def DenL (E : Env) (w : World) : List SV → List Value → Prop
  | [], [] => True
  | x :: l, v :: vs => Den E w x v ∧ DenL E w l vs
  | _, _ => False
theorem DenL.get {E : Env} {w : World} : ∀ {l : List SV} {vs : List Value}, DenL E w l vs → vs.length = l.length ∧ ∀ (i : Nat) (x : SV) (u : Value), l[i]? = some x → vs[i]? = some u → Den E w x u
  | [], [], _ => ⟨rfl, fun i x u h => by simp at h⟩
  | x :: l, v :: vs, h => by
    obtain ⟨h1, h2⟩ := DenL.get h.2
    refine ⟨by simp [h1], fun i y u hy hu => ?_⟩
    cases i with
    | zero => simp at hy hu; subst hy hu; exact h.1
    | succ i => exact h2 i y u (by simpa using hy) (by simpa using hu)
  | [], _ :: _, h => h.elim
  | _ :: _, [], h => h.elim
theorem denA_of {E : Env} {w : World} {l : List SV} {vs : List Value} (h : DenL E w l vs) : DenA E w l vs.toArray :=
  ⟨by simpa using h.get.1, fun i x u hx hu => h.get.2 i x u hx (by simpa using hu)⟩
theorem intK_of_typ {k : IntKind} {n c : Nat} {f : Nat → Nat → SV} {e : List Sh} (he : e = List.replicate c (Sh.int k)) (h : ∀ i j sh, i < n → e[j]? = some sh → Typ sh (f i j)) : IntK k n c f ∧ ∀ i j, i < n → j < c → (Lit.int k (iv (f i j))).wf = true := by
  have : ∀ i j, i < n → j < c → ∃ x, f i j = .int k x ∧ (Lit.int k x).wf = true := fun i j hi hj => by
    have := h i j (.int k) hi (by rw [he]; simp [List.getElem?_replicate, hj])
    generalize f i j = x at this
    cases this with
    | int hw => exact ⟨_, rfl, hw⟩
  exact ⟨fun i j hi hj => by obtain ⟨x, hx, _⟩ := this i j hi hj; rw [hx]; rfl, fun i j hi hj => by obtain ⟨x, hx, hw⟩ := this i j hi hj; rw [hx]; exact hw⟩
end Go.Eng
end

/- Cells by their shapes. -/
section
namespace Go.Eng
open Go Go.RowKit
theorem typ_int {k : IntKind} {a : SV} (h : Typ (.int k) a) : ∃ n, a = .int k n ∧ (Lit.int k n).wf = true := by
  cases h with
  | int h => exact ⟨_, rfl, h⟩
theorem typ_sl {e : List Sh} {a : SV} (h : Typ (.sl e) a) : ∃ n f, a = .row n e.length f ∧ n ≤ maxLen ∧ ∀ i j sh, i < n → e[j]? = some sh → Typ sh (f i j) := by
  cases h with
  | sl hn h => exact ⟨_, _, rfl, hn, h⟩
end Go.Eng
end

/- Rows of structs that hold one slice of numbers each. -/
section
namespace Go.Eng
open Go Go.RowKit Go.Proofs
/-- Rows that are alike cell by cell. -/
theorem SameD.row {n sz : Nat} {f g : Nat → Nat → SV} (h : ∀ i j, i < n → j < sz → SameD (f i j) (g i j)) : SameD (.row n sz f) (.row n sz g) := ⟨fun E w v hd => by
  cases hd with
  | row A cap q hA ho hn hc h1 hd => exact .row A cap q hA ho hn hc h1 (fun i j hi hj => (h i j hi hj).out E w _ (hd i j hi hj))
  | rowZ a cap => exact .rowZ a cap⟩
def nestF (k s : Nat) (A : Nat → Nat → Int) (M : Nat → Nat) (V : Nat → Nat → Nat → Int) : Nat → Nat → SV :=
  fun i j => if j = k then .row (M i) s (fun a b => .int .i64 (V i a b)) else .int .i64 (A i j)
theorem nestF_eq (k s : Nat) (A : Nat → Nat → Int) (M : Nat → Nat) (V : Nat → Nat → Nat → Int) (i j : Nat) :
    nestF k s A M V i j = if j = k then .row (M i) s (fun a b => .int .i64 (V i a b)) else .int .i64 (A i j) := rfl
def rowN : SV → Nat
  | .row n _ _ => n
  | _ => 0
def rowC : SV → Nat → Nat → SV
  | .row _ _ f => f
  | _ => fun _ _ => .any
def nsA (f : Nat → Nat → SV) : Nat → Nat → Int := fun i j => iv (f i j)
def nsM (k : Nat) (f : Nat → Nat → SV) : Nat → Nat := fun i => rowN (f i k)
def nsV (k : Nat) (f : Nat → Nat → SV) : Nat → Nat → Nat → Int := fun i a b => iv (rowC (f i k) a b)
/-- A cell that is a slice of numbers. -/
def IsR (s : Nat) : SV → Prop
  | .row m s' g => (s' = s ∨ m = 0) ∧ IntR m s g
  | _ => False
def NestR (n sz k s : Nat) (f : Nat → Nat → SV) : Prop := ∀ i, i < n → (∀ j, j < sz → j ≠ k → f i j = .int .i64 (iv (f i j))) ∧ (k < sz → IsR s (f i k))
theorem nestR_lit (n sz k s : Nat) (A : Nat → Nat → Int) (M : Nat → Nat) (V : Nat → Nat → Nat → Int) : NestR n sz k s (nestF k s A M V) = True :=
  eq_true fun i _ => ⟨fun j _ hj => by simp [nestF, hj, iv], fun _ => by simp only [nestF, if_true, IsR]; exact ⟨.inl trivial, fun a b _ _ => rfl⟩⟩
theorem nsM_lit (k s : Nat) (A : Nat → Nat → Int) (M : Nat → Nat) (V : Nat → Nat → Nat → Int) : nsM k (nestF k s A M V) = M := by
  funext i; simp [nsM, nestF, rowN]
theorem nsV_lit (k s : Nat) (A : Nat → Nat → Int) (M : Nat → Nat) (V : Nat → Nat → Nat → Int) : nsV k (nestF k s A M V) = V := by
  funext i a b; simp [nsV, nestF, rowC, iv]
theorem nsA_lit {k s : Nat} {A : Nat → Nat → Int} {M : Nat → Nat} {V : Nat → Nat → Nat → Int} (i : Nat) {j : Nat} (h : j ≠ k) : nsA (nestF k s A M V) i j = A i j := by
  simp [nsA, nestF, iv, h]
theorem isR_same {s : Nat} {x : SV} (h : IsR s x) : SameD x (.row (rowN x) s (fun a b => .int .i64 (iv (rowC x a b)))) := by
  cases x <;> first | exact h.elim | skip
  rename_i m s' g
  obtain ⟨h1, h2⟩ := h
  rcases h1 with rfl | rfl
  · exact SameD.int h2
  · exact SameD.row0
theorem SameD.nest {n sz k s : Nat} {f : Nat → Nat → SV} (h : NestR n sz k s f) : SameD (.row n sz f) (.row n sz (nestF k s (nsA f) (nsM k f) (nsV k f))) := by
  refine SameD.row fun i j hi hj => ?_
  obtain ⟨h1, h2⟩ := h i hi
  simp only [nestF, nsA, nsM, nsV]
  split
  · rename_i e; subst e
    exact isR_same (h2 hj)
  · rename_i e
    rw [h1 j hj e]
    exact SameD.rfl' _
theorem nest_bd {n sz k s : Nat} {f : Nat → Nat → SV} (h : NestR n sz k s f) (i j : Nat) (hi : i < n) (hj : j < sz) : Bd 0 0 (f i j) := by
  obtain ⟨h1, h2⟩ := h i hi
  by_cases e : j = k
  · subst e
    have := h2 hj
    generalize f i j = x at this
    cases x <;> first | exact this.elim | skip
    rename_i m s' g
    obtain ⟨h3, h4⟩ := this
    simp only [Bd]
    intro a b ha hb
    rcases h3 with rfl | rfl
    · rw [h4 a b ha hb]; trivial
    · omega
  · rw [h1 j hj e]; trivial
theorem nestF_bd1 (L K k s : Nat) (A : Nat → Nat → Int) (M : Nat → Nat) (V : Nat → Nat → Nat → Int) (i j : Nat) : Bd L K (nestF k s A M V i j) := by
  simp only [nestF]
  split
  · simp only [Bd]
    exact fun _ _ _ _ => trivial
  · trivial
theorem nestF_bd (L K n sz k s : Nat) (A : Nat → Nat → Int) (M : Nat → Nat) (V : Nat → Nat → Nat → Int) : ∀ i j, i < n → j < sz → Bd L K (nestF k s A M V i j) := fun i j _ _ => by
  simp only [nestF]
  split
  · simp only [Bd]
    exact fun _ _ _ _ => trivial
  · trivial
/-- Out of the shapes of a law's argument. -/
theorem nestR_typ {n sz k s : Nat} {f : Nat → Nat → SV} {e : List Sh} (he : ∀ j, j < sz → j ≠ k → e[j]? = some (.int .i64)) (hk : e[k]? = some (.sl (List.replicate s (.int .i64))))
    (h : ∀ i j sh, i < n → e[j]? = some sh → Typ sh (f i j)) : NestR n sz k s f ∧ (∀ i j, i < n → j < sz → j ≠ k → (Lit.int .i64 (nsA f i j)).wf = true) ∧ (∀ i, i < n → nsM k f i ≤ maxLen) ∧ ∀ i a b, i < n → a < nsM k f i → b < s → (Lit.int .i64 (nsV k f i a b)).wf = true := by
  have h1 : ∀ i j, i < n → j < sz → j ≠ k → f i j = .int .i64 (iv (f i j)) ∧ (Lit.int .i64 (iv (f i j))).wf = true := fun i j hi hj hjk => by
    obtain ⟨x, hx, hw⟩ := typ_int (h i j _ hi (he j hj hjk))
    rw [hx]; exact ⟨rfl, hw⟩
  have h2 : ∀ i, i < n → ∃ m g, f i k = .row m s g ∧ m ≤ maxLen ∧ IntR m s g ∧ ∀ a b, a < m → b < s → (Lit.int .i64 (iv (g a b))).wf = true := fun i hi => by
    obtain ⟨m, g, hx, hm, ht⟩ := typ_sl (h i k _ hi hk)
    obtain ⟨q1, q2⟩ := intK_of_typ rfl ht
    exact ⟨m, g, by rw [hx, List.length_replicate], hm, fun a b ha hb => q1 a b ha hb, q2⟩
  refine ⟨fun i hi => ⟨fun j hj hjk => (h1 i j hi hj hjk).1, fun _ => ?_⟩, fun i j hi hj hjk => (h1 i j hi hj hjk).2, fun i hi => ?_, fun i a b hi ha hb => ?_⟩
  · obtain ⟨m, g, hx, _, h3, _⟩ := h2 i hi
    rw [hx]; exact ⟨.inl rfl, h3⟩
  · obtain ⟨m, g, hx, h3, _⟩ := h2 i hi
    simp only [nsM, hx, rowN]; exact h3
  · obtain ⟨m, g, hx, _, _, h3⟩ := h2 i hi
    simp only [nsM, nsV, hx, rowN, rowC] at ha ⊢
    exact h3 a b ha hb
/- Closed rows, checked. -/
end Go.Eng
end

/- Plans. -/
section
namespace Go.Eng
def p6_9 : Plan := .quiet 0 (.quiet 1 (.quiet 2 (.quiet 3 (.quiet 4 (.quiet 5 (.quiet 6 (.quiet 7 (.quiet 8 (.quiet 9 (.done))))))))))
def p6_16 : Plan := .quiet 1 (.quiet 2 (.quiet 4 (.both (.loud 0 [1, 2, 4] (.both (.loud 3 [4] (.loud 5 [] (.loud 6 [] (.quiet 7 (.loud 8 [] (.done)))))) (.loud 5 [1, 2] (.loud 3 [] (.loud 6 [] (.quiet 7 (.loud 8 [] (.done)))))))) (.loud 5 [1, 2] (.loud 0 [1, 2] (.loud 3 [] (.loud 6 [] (.quiet 7 (.loud 8 [] (.done))))))))))
def p6_24 : Plan := .quiet 1 (.quiet 2 (.quiet 3 (.quiet 4 (.quiet 6 (.quiet 7 (.quiet 8 (.quiet 9 (.quiet 10 (.loud 0 [1, 2, 4, 6, 7, 10] (.loud 5 [6, 7, 10] (.loud 11 [] (.quiet 12 (.loud 13 [] (.done))))))))))))))
def p36_11 : Plan := .quiet 0 (.quiet 1 (.quiet 2 (.quiet 3 (.quiet 4 (.loud 5 [0, 4] (.quiet 6 (.quiet 7 (.loud 8 [] (.done)))))))))
def p38_5 : Plan := .quiet 0 (.quiet 1 (.quiet 2 (.quiet 3 (.quiet 4 (.quiet 5 (.quiet 6 (.quiet 7 (.quiet 8 (.quiet 9 (.done))))))))))
def p38_27 : Plan := .quiet 0 (.quiet 1 (.quiet 2 (.quiet 3 (.quiet 4 (.quiet 5 (.quiet 6 (.quiet 7 (.quiet 8 (.quiet 9 (.quiet 10 (.quiet 11 (.quiet 12 (.quiet 13 (.quiet 14 (.quiet 15 (.quiet 16 (.quiet 17 (.done))))))))))))))))))
def p39_3 : Plan := .quiet 0 (.quiet 1 (.quiet 2 (.quiet 3 (.quiet 4 (.quiet 5 (.quiet 6 (.quiet 7 (.quiet 8 (.quiet 9 (.loud 10 [] (.done)))))))))))
end Go.Eng
end

/- panel: small functions. -/
section
namespace Go.Eng
open Go Go.RowKit Go.Proofs
set_option maxRecDepth 100000
set_option maxHeartbeats 4000000
attribute [local irreducible] OwnT DefS
def in3 (n lo hi : Int) : Bool := decide (lo ≤ n) && decide (n ≤ hi)
theorem in3_iff {n lo hi : Int} : in3 n lo hi = true ↔ lo ≤ n ∧ n ≤ hi := by simp [in3]
theorem wrap_id {x : Int} (h1 : -9223372036854775808 ≤ x) (h2 : x ≤ 9223372036854775807) : IntKind.i64.wrap x = x := by
  simp [IntKind.wrap, IntKind.signed, IntKind.bits]
  omega
theorem wrap_s {i n : Nat} (h : i < n) (hn : n ≤ 1000000) : IntKind.i64.wrap ((i : Int) + 1) = ((i + 1 : Nat) : Int) := by rw [wrap_id (by omega) (by omega)]; omega
def allU (p : Nat → Bool) : Nat → Bool
  | 0 => true
  | n + 1 => allU p n && p n
theorem allU_iff {p : Nat → Bool} : ∀ {n : Nat}, allU p n = true ↔ ∀ i, i < n → p i = true
  | 0 => ⟨fun _ i h => absurd h (by omega), fun _ => rfl⟩
  | n + 1 => by
    simp only [allU, Bool.and_eq_true, allU_iff (n := n)]
    constructor
    · rintro ⟨h1, h2⟩ i hi
      rcases Nat.lt_or_ge i n with h | h
      · exact h1 i h
      · obtain rfl : i = n := by omega
        exact h2
    · intro h
      exact ⟨fun i hi => h i (by omega), h n (by omega)⟩
theorem allU_false {p : Nat → Bool} {n i : Nat} (hi : i < n) (h : p i = false) : allU p n = false := by
  cases hc : allU p n with
  | false => rfl
  | true => have := allU_iff.1 hc i hi; rw [h] at this; cases this
theorem allU_true {p : Nat → Bool} {n : Nat} (h : ∀ j, j < n → p j = true) : allU p n = true := allU_iff.2 h
theorem below {p : Nat → Bool} {i : Nat} (h : ∀ j, j < i → p j = true) (hi : p i = true) : ∀ j, j < i + 1 → p j = true := fun j hj => by
  rcases Nat.lt_or_ge j i with h2 | h2
  · exact h j h2
  · obtain rfl : j = i := by omega
    exact hi
def withinBase : BaseF := fun args => match args with
  | [.int .i64 n, .int .i64 lo, .int .i64 hi] => some (True, .bool (in3 n lo hi))
  | _ => none
theorem within_eq (n : Int) (lo : Int) (hi : Int) : withinBase [.int .i64 n, .int .i64 lo, .int .i64 hi] = some (True, .bool (in3 n lo hi)) := rfl
theorem within_base : Base Try.prog 44 withinBase := by
  intro args p v hq hp
  unfold withinBase at hq
  split at hq
  rotate_left
  · cases hq
  rename_i n lo hi
  cases hq
  refine base_of (C := cx [] [] [] [] none) (cx_ok trivial trivial) rfl (g := 44) (fn := Try.f44)
    (args' := [.int .i64 n, .int .i64 lo, .int .i64 hi]) (fn_44) rfl 1000 (by simp only [BdL, Bd, and_self, and_true, true_and]) ⟨SameD.rfl' _, SameD.rfl' _, SameD.rfl' _, trivial⟩ ?_
  simp only [Try.f44, go_sem, ↓reduceIte, Nat.reduceAdd, Nat.reduceSub, Nat.reduceMul, Nat.reduceEqDiff, Nat.reduceLT, Nat.reduceLeDiff, Int.reduceToNat, Int.reduceLE, Int.reduceLT, Int.reduceEq, Int.reduceNeg, reduceCtorEq]
  (repeat' refine And.intro (fun _ => ?_) (fun _ => ?_)) <;> simp_all [in3] <;> omega
def isCallBase : BaseF := fun args => match args with
  | [.int .i64 n] => some (True, .bool (in3 n 0 100))
  | _ => none
theorem isCall_eq (n : Int) : isCallBase [.int .i64 n] = some (True, .bool (in3 n 0 100)) := rfl
theorem isCall_base : Base Try.prog 48 isCallBase := by
  intro args p v hq hp
  unfold isCallBase at hq
  split at hq
  rotate_left
  · cases hq
  rename_i n
  cases hq
  refine base_of (C := cx [] [] [(44, withinBase)] [] none) (cx_ok trivial ⟨within_base, trivial⟩) rfl (g := 48) (fn := Try.f48)
    (args' := [.int .i64 n]) (fn_48) rfl 1000 (by simp only [BdL, Bd, and_self, and_true, true_and]) ⟨SameD.rfl' _, trivial⟩ ?_
  simp only [within_eq, Try.f48, go_sem, ↓reduceIte, Nat.reduceAdd, Nat.reduceSub, Nat.reduceMul, Nat.reduceEqDiff, Nat.reduceLT, Nat.reduceLeDiff, Int.reduceToNat, Int.reduceLE, Int.reduceLT, Int.reduceEq, Int.reduceNeg, reduceCtorEq]
/-- What a number of a list is at most. -/
def limG : Nat → Int
  | 75 => 10000
  | 81 => 255
  | _ => 100
def hasIntBase : BaseF := fun args => match args with
  | [.row n sz_v f_v, .func g []] => some ((sz_v = 1 ∧ IntR n 1 f_v) ∧ ((g = 54 ∨ g = 74 ∨ g = 75 ∨ g = 81) ∧ n ≤ 1000000), .bool (!allU (fun i => in3 ((ivf f_v) i 0) 0 (limG g)) n))
  | _ => none
theorem hasInt_eq (n : Nat) (sz_v : Nat) (f_v : Nat → Nat → SV) (g : Nat) : hasIntBase [.row n sz_v f_v, .func g []] = some ((sz_v = 1 ∧ IntR n 1 f_v) ∧ ((g = 54 ∨ g = 74 ∨ g = 75 ∨ g = 81) ∧ n ≤ 1000000), .bool (!allU (fun i => in3 ((ivf f_v) i 0) 0 (limG g)) n)) := rfl
theorem hasInt_base : Base Try.prog 42 hasIntBase := by
  intro args p v hq hp
  unfold hasIntBase at hq
  split at hq
  rotate_left
  · cases hq
  rename_i n sz_v f_v g
  cases hq
  obtain ⟨⟨rfl, i_v⟩, pre⟩ := hp
  refine base_of (C := cx [] [] [(44, withinBase), (48, isCallBase)] [] none) (cx_ok trivial ⟨within_base, isCall_base, trivial⟩) rfl (g := 42) (fn := Try.f42)
    (args' := [.row n 1 (rowF .i64 (ivf f_v)), .func g []]) (fn_42) rfl 1000 (by
    simp only [BdL, Bd, and_self, and_true, true_and]
    exact (fun i j hi hj => by rw [i_v i j hi hj]; trivial)) ⟨SameD.int i_v, SameD.rfl' _, trivial⟩ ?_
  generalize ivf f_v = v at *
  simp only [rowF_eq]
  simp only [within_eq, isCall_eq, Try.f54, Try.f74, Try.f75, Try.f81, Try.f71, Try.f42, go_sem, ↓reduceIte, Nat.reduceAdd, Nat.reduceSub, Nat.reduceMul, Nat.reduceEqDiff, Nat.reduceLT, Nat.reduceLeDiff, Int.reduceToNat, Int.reduceLE, Int.reduceLT, Int.reduceEq, Int.reduceNeg, reduceCtorEq]
  obtain ⟨hg, hn⟩ := pre
  refine loop_ofH { i : Nat // i ≤ n ∧ ∀ j, j < i → (fun i => in3 (v i 0) 0 (limG g)) j = true } (fun i => [(8, .int .i64 (i.1 : Int)), (7, .int .i64 (n : Int)), (1, .func g []), (0, .row n 1 fun i j => .int .i64 (v i j))]) (fun h _ => h) (fun i => n - i.1) (fun _ => ⟨rfl, rfl⟩) ⟨0, by omega, by omega⟩ (by (apply sub_of <;> simp only [go_sem, ↓reduceIte, Nat.reduceAdd, Nat.reduceSub, Nat.reduceMul, Nat.reduceEqDiff, Nat.reduceLT, Nat.reduceLeDiff, Int.reduceToNat, Int.reduceLE, Int.reduceLT, Int.reduceEq, Int.reduceNeg, reduceCtorEq] <;> (try simp [catF]) <;> (try exact fun j _ => Bd_nth (by simp [BdL, Bd]) j) <;> (try exact bd_setL (by simp [bdAs, BdL, Bd])) <;> (try exact nestF_bd _ _ _ _ _ _ _ _ _))) ?_
  rintro ⟨i, hi, h3⟩
  have h0 : (0 : Int) ≤ (i : Int) := by omega
  rcases hg with rfl | rfl | rfl | rfl
  all_goals simp only [within_eq, isCall_eq, Try.f54, Try.f74, Try.f75, Try.f81, Try.f71, Try.f42, go_sem, ↓reduceIte, Nat.reduceAdd, Nat.reduceSub, Nat.reduceMul, Nat.reduceEqDiff, Nat.reduceLT, Nat.reduceLeDiff, Int.reduceToNat, Int.reduceLE, Int.reduceLT, Int.reduceEq, Int.reduceNeg, reduceCtorEq]
  all_goals (
    refine ⟨fun e1 => ?_, fun e1 => ?_⟩
    · simp only [decide_eq_true_eq] at e1
      have ik : i < n := by omega
      refine ⟨⟨by omega, by omega⟩, fun e2 => ?_, fun e2 => ?_⟩
      · simp only [limG]; rw [allU_false (p := fun i => in3 (v i 0) 0 _) ik (by simpa using e2)]; simp [h0]
      refine ⟨⟨i + 1, by omega, below h3 (by simpa [limG] using e2)⟩, by simp only []; omega, ?_⟩
      apply sub_of <;> simp only [wrap_s ik hn, go_sem, ↓reduceIte, Nat.reduceAdd, Nat.reduceSub, Nat.reduceMul, Nat.reduceEqDiff, Nat.reduceLT, Nat.reduceLeDiff, Int.reduceToNat, Int.reduceLE, Int.reduceLT, Int.reduceEq, Int.reduceNeg, reduceCtorEq] <;> (try simp) <;> (try exact fun j _ => Bd_nth (by simp [BdL, Bd]) j) <;> (try exact bd_setL (by simp [bdAs, BdL, Bd])) <;> (try exact nestF_bd _ _ _ _ _ _ _ _ _)
    · simp only [decide_eq_false_iff_not] at e1
      obtain rfl : i = n := by omega
      simp only [limG] at h3 ⊢; rw [allU_true h3]; rfl)
def areClubsBase : BaseF := fun args => match args with
  | [.row n sz_v f_v] => some ((sz_v = 1 ∧ IntR n 1 f_v) ∧ (n ≤ 1000000), .bool (allU (fun i => in3 ((ivf f_v) i 0) 0 255) n))
  | _ => none
theorem areClubs_eq (n : Nat) (sz_v : Nat) (f_v : Nat → Nat → SV) : areClubsBase [.row n sz_v f_v] = some ((sz_v = 1 ∧ IntR n 1 f_v) ∧ (n ≤ 1000000), .bool (allU (fun i => in3 ((ivf f_v) i 0) 0 255) n)) := rfl
theorem areClubs_base : Base Try.prog 64 areClubsBase := by
  intro args p v hq hp
  unfold areClubsBase at hq
  split at hq
  rotate_left
  · cases hq
  rename_i n sz_v f_v
  cases hq
  obtain ⟨⟨rfl, i_v⟩, pre⟩ := hp
  refine base_of (C := cx [] [] [(42, hasIntBase)] [] none) (cx_ok trivial ⟨hasInt_base, trivial⟩) rfl (g := 64) (fn := Try.f64)
    (args' := [.row n 1 (rowF .i64 (ivf f_v))]) (fn_64) rfl 1000 (by
    simp only [BdL, Bd, and_self, and_true, true_and]
    exact (fun i j hi hj => by rw [i_v i j hi hj]; trivial)) ⟨SameD.int i_v, trivial⟩ ?_
  generalize ivf f_v = v at *
  simp only [rowF_eq]
  simp only [hasInt_eq, Try.f64, go_sem, ↓reduceIte, Nat.reduceAdd, Nat.reduceSub, Nat.reduceMul, Nat.reduceEqDiff, Nat.reduceLT, Nat.reduceLeDiff, Int.reduceToNat, Int.reduceLE, Int.reduceLT, Int.reduceEq, Int.reduceNeg, reduceCtorEq]
  exact ⟨⟨by simp, pre⟩, by simp [limG]⟩
end Go.Eng
end

/- panel: votes. The plain law: majorities, and the table of counts. -/
section
namespace Go.Eng
/- ### the table of counts -/
theorem findM_put : ∀ (es : List (List Int × List Int)) (k v k' : List Int), findM (putM es k v) k' = if k = k' then some v else findM es k'
  | [], k, v, k' => by simp [putM, findM]
  | (a, b) :: es, k, v, k' => by
    simp only [putM]
    by_cases h : a = k
    · rw [if_pos h]; subst h
      simp only [findM]
      split <;> rfl
    · rw [if_neg h]
      simp only [findM, findM_put es k v k']
      by_cases h2 : a = k'
      · rw [if_pos h2, if_neg (by rintro rfl; exact h h2), if_pos h2]
      · rw [if_neg h2, if_neg h2]
end Go.Eng
end

/- panel: what a call is behind votes. -/
section
namespace Go.Eng
open Go Go.RowKit Go.Proofs
set_option maxRecDepth 100000
set_option maxHeartbeats 4000000
attribute [local irreducible] OwnT DefS
theorem lenM_len (l : List (List Int × List Int)) : lenM l = l.length := by
  induction l with
  | nil => rfl
  | cons x l ih => simp [lenM, ih]
theorem numV_i (x : Int) : numV false [.i] (.int .i64 x) = some [x] := rfl
def un (seen : List Nat) : Nat → Nat
  | 0 => 0
  | n + 1 => un seen n + if seen.contains n then 0 else 1
end Go.Eng
end

/- panel: appeals, the plain law. -/
section
namespace Go.Eng
/-- What appeals leave: how many calls, the fees kept, how many appeals were seen, the error. -/
structure ApR where
  n : Nat
  kept : Int
  ix : Int
  e : Int
/-- Cells told by a function. -/
def cel (f : Nat → SV) : List SV := cellsF f 64 0
section
variable {n m : Nat} {c : Nat → Int} {A : Nat → Nat → Int} {M : Nat → Nat} {V : Nat → Nat → Nat → Int} {fee : Int}
end
end Go.Eng
end

/- panel: appeals. -/
section
namespace Go.Eng
open Go Go.RowKit Go.Proofs
set_option maxRecDepth 100000
set_option maxHeartbeats 4000000
attribute [local irreducible] OwnT DefS
def cloneBase : BaseF := fun args => match args with
  | [.row n sz_f f_f] => some ((sz_f = 1 ∧ IntR n 1 f_f) ∧ (n ≤ 1000000), .row n 1 (fun i j => .int .i64 ((ivf f_f) i j)))
  | _ => none
theorem clone_eq (n : Nat) (sz_f : Nat) (f_f : Nat → Nat → SV) : cloneBase [.row n sz_f f_f] = some ((sz_f = 1 ∧ IntR n 1 f_f) ∧ (n ≤ 1000000), .row n 1 (fun i j => .int .i64 ((ivf f_f) i j))) := rfl
theorem clone_base : BaseO Try.prog 55 3 cloneBase := by
  intro args p v hq hp
  unfold cloneBase at hq
  split at hq
  rotate_left
  · cases hq
  rename_i n sz_f f_f
  cases hq
  obtain ⟨⟨rfl, i_f⟩, pre⟩ := hp
  refine baseO_of (C := cx [] [] [] [] none) (cx_ok trivial trivial) rfl (g := 55) (fn := Try.f55)
    (args' := [.row n 1 (rowF .i64 (ivf f_f))]) (fn_55) rfl 1000 (by
    simp only [BdL, Bd, and_self, and_true, true_and]
    exact (fun i j hi hj => by rw [i_f i j hi hj]; trivial)) ⟨SameD.int i_f, trivial⟩ ?_
  generalize ivf f_f = f at *
  simp only [rowF_eq]
  simp only [Try.f55, go_sem, ↓reduceIte, Nat.reduceAdd, Nat.reduceSub, Nat.reduceMul, Nat.reduceEqDiff, Nat.reduceLT, Nat.reduceLeDiff, Int.reduceToNat, Int.reduceLE, Int.reduceLT, Int.reduceEq, Int.reduceNeg, reduceCtorEq]
  exact ⟨fun h => ⟨h.symm, fun i j hi _ => by omega⟩, ⟨by omega, by omega⟩, fun i j _ _ => by simp [catF]⟩
end Go.Eng
end

/- Conditions of results, reckoned. -/
section
namespace Go.Eng
open Go.RowKit
set_option linter.unusedVariables false

/-- What a result asks. -/
def cnd : Res → Prop
  | .val p _ _ => p
  | .skip p _ => p
  | .callN p _ _ _ => p
  | .pick c _ _ _ _ _ _ => c
  | _ => True
/-- Memory is what it was. -/
def same (h : HS) : Res → Prop
  | .val _ _ h' => h' = h
  | _ => True

/-- Of the two values it is the second. -/
def nfk : Res → Prop
  | .fork p _ _ _ => ¬ p
  | _ => True
def nfNil (h : HS) (a : SV) : Bool :=
  match a with
  | .row n _ _ => !decide (n = 0)
  | .vec id ver => match getV h.vecs id with
    | .live ver' _ _ n _ => decide (ver = ver') && !decide (n = 0)
    | .dead => true
  | .vcut id ver _ _ n _ => match getV h.vecs id with
    | .live ver' _ _ N _ => decide (ver = ver') && (!decide (n = 0) && !decide (N = 0))
    | .dead => true
  | _ => true
theorem nfNil_ok {ti : Option TI} {op : BinOp} {a : SV} {h : HS} (hd : nfNil h a = true) : nfk (rEqNil ti op a h) := by
  unfold rEqNil
  split
  · split
    · split <;> (try trivial)
      · simpa [nfk, nfNil] using hd
      · simpa [nfk, nfNil] using hd
      · unfold vNil
        split
        · rename_i hv; simp only [nfNil, hv, Bool.and_eq_true, decide_eq_true_eq, Bool.not_eq_true', decide_eq_false_iff_not] at hd; rw [hv]; intro hp; have := hp hd.1; simp only [nOf] at this; omega
        · trivial
      · unfold vNil
        split
        · rename_i hv; simp only [nfNil, hv, Bool.and_eq_true, decide_eq_true_eq, Bool.not_eq_true', decide_eq_false_iff_not] at hd; rw [hv]; intro hp; have := hp hd.1; simp only [nOf] at this; omega
        · trivial
      · unfold vNil
        split
        · rename_i hv; simp only [nfNil, hv, Bool.and_eq_true, decide_eq_true_eq, Bool.not_eq_true', decide_eq_false_iff_not] at hd; intro hp; have := hp hd.1; omega
        · trivial
      · unfold vNil
        split
        · rename_i hv; simp only [nfNil, hv, Bool.and_eq_true, decide_eq_true_eq, Bool.not_eq_true', decide_eq_false_iff_not] at hd; intro hp; have := hp hd.1; omega
        · trivial
    · trivial
  · trivial
def dBin (op : BinOp) (a b : SV) : Bool :=
  match op, a, b with
  | .quo, .int _ _, .int _ y => !decide (y = 0)
  | .rem, .int _ _, .int _ y => !decide (y = 0)
  | .shr, .int _ _, .int _ y => decide (0 ≤ y)
  | _, _, _ => true
theorem dBin_ok {op : BinOp} {a b : SV} {h : HS} (hd : dBin op a b = true) : cnd (rBin op a b h) := by
  unfold rBin
  split <;> (try split) <;> first | trivial | (simpa [cnd, dBin] using hd)
theorem neO_c {op : BinOp} {q : Bool} {h : HS} : cnd (neO op q h) ∧ same h (neO op q h) := by
  unfold neO; split <;> first | exact ⟨trivial, rfl⟩ | exact ⟨trivial, trivial⟩
theorem rBin_s {op : BinOp} {a b : SV} {h : HS} : same h (rBin op a b h) := by
  unfold rBin; split <;> (try split) <;> first | rfl | trivial
theorem rEqA_c {ti : Option TI} {op : BinOp} {l m : List SV} {h : HS} : cnd (rEqA ti op l m h) ∧ same h (rEqA ti op l m h) := by
  unfold rEqA; repeat' split
  all_goals first | exact neO_c | exact ⟨trivial, trivial⟩
theorem rEqB_c {ti : Option TI} {op : BinOp} {x y : Bool} {h : HS} : cnd (rEqB ti op x y h) ∧ same h (rEqB ti op x y h) := by
  unfold rEqB; repeat' split
  all_goals first | exact neO_c | exact ⟨trivial, trivial⟩
theorem rEqI_c {ti : Option TI} {op : BinOp} {q : Bool} {h : HS} : cnd (rEqI ti op q h) ∧ same h (rEqI ti op q h) := by
  unfold rEqI; repeat' split
  all_goals first | exact neO_c | exact ⟨trivial, trivial⟩
theorem rEqF_c {ti : Option TI} {op : BinOp} {q : Bool} {h : HS} : cnd (rEqF ti op q h) ∧ same h (rEqF ti op q h) := by
  unfold rEqF; repeat' split
  all_goals first | exact neO_c | exact ⟨trivial, trivial⟩
theorem rEqNil_c {ti : Option TI} {op : BinOp} {a : SV} {h : HS} : cnd (rEqNil ti op a h) ∧ same h (rEqNil ti op a h) := by
  unfold rEqNil vNil; repeat' split
  all_goals first | exact ⟨trivial, rfl⟩ | exact ⟨trivial, trivial⟩
theorem rBin2_c {ti : Option TI} {c : Bool} {op : BinOp} {a b : SV} {h : HS} (hd : dBin op a b = true) : cnd (rBin2 ti c op a b h) := by
  unfold rBin2; repeat' split
  all_goals first | exact dBin_ok hd | exact rEqA_c.1 | exact rEqB_c.1 | exact rEqI_c.1 | exact rEqF_c.1 | trivial
theorem rBin2_s {ti : Option TI} {c : Bool} {op : BinOp} {a b : SV} {h : HS} : same h (rBin2 ti c op a b h) := by
  unfold rBin2; repeat' split
  all_goals first | exact rBin_s | exact rEqA_c.2 | exact rEqB_c.2 | exact rEqI_c.2 | exact rEqF_c.2 | trivial
def dBin3 (op : BinOp) (nl : Bool) (a b : SV) : Bool := match nl with
  | true => true
  | false => dBin op a b
theorem rBin3_c {ti : Option TI} {c nl : Bool} {op : BinOp} {a b : SV} {h : HS} (hd : dBin3 op nl a b = true) : cnd (rBin3 ti c op nl a b h) := by
  unfold rBin3; split
  · exact rEqNil_c.1
  · exact rBin2_c hd
theorem rBin3_s {ti : Option TI} {c nl : Bool} {op : BinOp} {a b : SV} {h : HS} : same h (rBin3 ti c op nl a b h) := by
  unfold rBin3; split
  · exact rEqNil_c.2
  · exact rBin2_s

def dLoad (ti : TI) (h : HS) (addr : SV) : Bool :=
  match addr with
  | .ptr nm off => match getB h.blks nm with
    | .live _ cells => decide (off + ti.size ≤ lenS cells)
    | _ => true
  | .rptr sz f => decide (ti.size ≤ sz)
  | .vptr id ver sz i off => match getV h.vecs id with
    | .live ver' _ sz' n f => decide (ver = ver') && decide (sz = sz') && decide (i < n) && decide (off + ti.size ≤ sz)
    | .dead => true
  | _ => true
theorem dLoad_ok {ti : TI} {h : HS} {x : SV} (hd : dLoad ti h x = true) : cnd (rLoad ti h x) := by
  unfold dLoad at hd; unfold rLoad
  split
  · split
    · rename_i hb; simpa [cnd, hb] using hd
    · trivial
  · simpa [cnd] using hd
  · split
    · rename_i hb; simpa [cnd, hb, and_assoc] using hd
    · trivial
  · trivial
theorem rLoad_s {ti : TI} {h : HS} {x : SV} : same h (rLoad ti h x) := by
  unfold rLoad; repeat' split
  all_goals first | rfl | trivial
def dStore (ti : TI) (h : HS) (addr v : SV) : Bool :=
  match cellsOf v with
  | none => true
  | some l => match addr with
    | .ptr nm off => match getB h.blks nm with
      | .live ty cells => decide (lenS l = ti.size) && decide (off + ti.size ≤ lenS cells)
      | _ => true
    | .vptr id ver sz i off => match getV h.vecs id with
      | .live ver' ty sz' n f => decide (lenS l = ti.size) && decide (ver = ver') && decide (sz = sz') && decide (i < n) && decide (off + ti.size ≤ sz)
      | .dead => true
    | _ => true
theorem dStore_ok {ti : TI} {h : HS} {x y : SV} (hd : dStore ti h x y = true) : cnd (rStore ti h x y) := by
  unfold dStore at hd; unfold rStore
  split
  · trivial
  · rename_i hc
    simp only [hc] at hd
    split
    · split
      · rename_i hb; simpa [cnd, hb] using hd
      · trivial
    · split
      · rename_i hb; simpa [cnd, hb, and_assoc] using hd
      · trivial
    · trivial
def dField (ti : TI) (x : SV) (k : Nat) : Bool :=
  match ti.kind with
  | .struct offs => match nthO offs k with
    | some (o, _) => match x with
      | .rptr sz f => decide (o ≤ sz)
      | _ => true
    | none => true
  | _ => true
theorem dField_ok {ti : TI} {h : HS} {x : SV} {k : Nat} (hd : dField ti x k = true) : cnd (rField ti h x k) := by
  unfold dField at hd; unfold rField
  split
  · rename_i hk
    split
    · rename_i hn
      simp only [hk, hn] at hd
      split
      · trivial
      · simpa [cnd] using hd
      · trivial
      · trivial
    · trivial
  · trivial
theorem rField_s {ti : TI} {h : HS} {x : SV} {k : Nat} : same h (rField ti h x k) := by
  unfold rField; repeat' split
  all_goals first | rfl | trivial
def dIndex (ti : TI) (se : Nat) (h : HS) (x idx : SV) : Bool :=
  match ti.kind, x, idx with
  | .slice _, .row n sz f, .int _ i => decide (se = sz) && decide (0 ≤ i) && decide (i < (n : Int))
  | .slice _, .vec id ver, .int _ i => match getV h.vecs id with
    | .live ver' _ sz n _ => decide (ver = ver') && decide (se = sz) && decide (0 ≤ i) && decide (i < (n : Int))
    | .dead => true
  | .array n _, .ptr nm off, .int _ i => decide (0 ≤ i) && decide (i < (n : Int))
  | .slice _, .vcut id ver sz lo n _, .int _ i => match getV h.vecs id with
    | .live ver' _ sz' _ _ => decide (ver = ver') && decide (sz = sz') && decide (se = sz) && decide (0 ≤ i) && decide (i < (n : Int))
    | .dead => true
  | .slice _, .bsl nm off n, .int _ i => decide (se = 1) && decide (0 ≤ i) && decide (i < (n : Int))
  | _, _, _ => true
theorem dIndex_ok {ti : TI} {se : Nat} {h : HS} {x idx : SV} (hd : dIndex ti se h x idx = true) : cnd (rIndex ti se h x idx) := by
  unfold rIndex
  split
  · rename_i hk; simpa [cnd, dIndex, hk, and_assoc] using hd
  · rename_i hk
    split
    · rename_i hb; simpa [cnd, dIndex, hk, hb, and_assoc] using hd
    · trivial
  · rename_i hk; simpa [cnd, dIndex, hk, and_assoc] using hd
  · rename_i hk
    split
    · rename_i hb; simpa [cnd, dIndex, hk, hb, and_assoc] using hd
    · trivial
  · rename_i hk; simpa [cnd, dIndex, hk, and_assoc] using hd
  · trivial
theorem rIndex_s {ti : TI} {se : Nat} {h : HS} {x idx : SV} : same h (rIndex ti se h x idx) := by
  unfold rIndex; repeat' split
  all_goals first | rfl | trivial
theorem lenI_c {es : List (List Int × List Int)} {h : HS} {o : Option (Nat × Nat × List Nat)} : cnd (lenI es h o) ∧ same h (lenI es h o) := by
  unfold lenI; split <;> first | exact ⟨trivial, rfl⟩ | exact ⟨trivial, trivial⟩
def dLen (ti : TI) (h : HS) (x : SV) : Bool :=
  match ti.kind, x with
  | .slice _, .vec id ver => match getV h.vecs id with
    | .live ver' _ _ n _ => decide (ver = ver')
    | .dead => true
  | _, _ => true
theorem dLen_ok {ti : TI} {h : HS} {x : SV} (hd : dLen ti h x = true) : cnd (rLen ti h x) := by
  unfold rLen
  split <;> (try trivial)
  · rename_i hk
    split
    · rename_i hb; simpa [cnd, dLen, hk, hb] using hd
    · trivial
  · split <;> first | exact lenI_c.1 | trivial
theorem rLen_s {ti : TI} {h : HS} {x : SV} : same h (rLen ti h x) := by
  unfold rLen; repeat' split
  all_goals first | rfl | exact lenI_c.2 | trivial
def dFill (place : Nat → Option (Nat × Nat)) : List (Nat × SV) → List SV → Bool
  | [], cells => true
  | (i, x) :: r, cells => match place i, cellsOf x with
    | some (off, size), some l => decide (lenS l = size) && decide (off + size ≤ lenS cells) && dFill place r (over cells off l)
    | _, _ => true
theorem dFill_ok {place : Nat → Option (Nat × Nat)} : ∀ {ps : List (Nat × SV)} {cells : List SV} {p : Prop} {c : List SV}, dFill place ps cells = true → fillS place ps cells = some (p, c) → p
  | [], cells, p, c, _, h => by simp only [fillS, Option.some.injEq, Prod.mk.injEq] at h; exact h.1 ▸ trivial
  | (i, x) :: r, cells, p, c, hd, h => by
    simp only [fillS] at h
    simp only [dFill] at hd
    split at h
    · rename_i off size l h1 h2
      simp only [h1, h2, Bool.and_eq_true, decide_eq_true_eq] at hd
      split at h
      · rename_i p' c' h3
        simp only [Option.some.injEq, Prod.mk.injEq] at h
        exact h.1 ▸ ⟨hd.1, dFill_ok hd.2 h3⟩
      · cases h
    · cases h
def dBuild (ti : TI) (se : Nat) (ps : List (Nat × SV)) : Bool :=
  match ti.kind with
  | .struct offs => dFill (placeS offs) ps (zcs ti.zero)
  | .array _ _ => dFill (placeA se) ps (zcs ti.zero)
  | _ => true
theorem fin2_c {place : Nat → Option (Nat × Nat)} {ps : List (Nat × SV)} {cells : List SV} {h : HS} (hd : dFill place ps cells = true) : cnd (fin2 (fillS place ps cells) h) := by
  unfold fin2
  split
  · rename_i hf; exact dFill_ok hd hf
  · trivial
theorem dBuild_ok {ti : TI} {se : Nat} {ps : List (Nat × SV)} {h : HS} (hd : dBuild ti se ps = true) : cnd (rBuild ti se ps h) := by
  unfold dBuild at hd; unfold rBuild
  split
  · rename_i hk; rw [hk] at hd; exact fin2_c hd
  · rename_i hk; rw [hk] at hd; exact fin2_c hd
  · trivial
theorem rBuild_same {ti : TI} {se : Nat} {ps : List (Nat × SV)} {h : HS} : same h (rBuild ti se ps h) := by
  unfold rBuild fin2; repeat' split
  all_goals first | rfl | trivial
def dBuildSlice (te : TI) (len : Nat) (ps : List (Nat × SV)) : Bool :=
  match len, ps with
  | 0, [] => decide (0 < te.size)
  | _, _ => dFill (placeA te.size) ps (repZ (zcs te.zero) len) && decide (0 < te.size) && decide (0 < len) && decide (len * te.size ≤ 16777216)
theorem dBuildSlice_ok {e : TypeId} {te : TI} {len : Nat} {ps : List (Nat × SV)} {h : HS} (hd : dBuildSlice te len ps = true) : cnd (rBuildSlice e te len ps h) := by
  unfold rBuildSlice
  split
  · simpa [cnd, dBuildSlice] using hd
  · rename_i hne
    unfold dBuildSlice at hd
    split at hd
    · exact (hne rfl rfl).elim
    · simp only [Bool.and_eq_true, decide_eq_true_eq] at hd
      unfold fin3
      split
      · rename_i hf; exact ⟨dFill_ok hd.1.1.1 hf, hd.1.1.2, hd.1.2, hd.2⟩
      · trivial
def dExtract (x : SV) (i : Nat) : Bool := match x with
  | .tup l => decide (i < lenS l)
  | _ => true
theorem dExtract_ok {x : SV} {i : Nat} {h : HS} (hd : dExtract x i = true) : cnd (rExtract x i h) := by
  unfold rExtract; split
  · simpa [cnd, dExtract] using hd
  · trivial
def dSlice (ti : TI) (x : SV) (lo hi : Option SV) : Bool :=
  match ti.kind, x, lo, hi with
  | .slice _, .row n sz f, some (.int _ l), some (.int _ u) => decide (0 ≤ l) && decide (l ≤ u) && decide (u ≤ (n : Int))
  | .slice _, .row n sz f, some (.int _ l), none => decide (0 ≤ l) && decide (l ≤ (n : Int))
  | .slice _, .row n sz f, none, some (.int _ u) => decide (0 ≤ u) && decide (u ≤ (n : Int))
  | _, _, _, _ => true
theorem dSlice_ok {ti : TI} {x : SV} {lo hi : Option SV} {h : HS} (hd : dSlice ti x lo hi = true) : cnd (rSlice ti x lo hi h) := by
  unfold rSlice
  split
  · rename_i hk; simpa [cnd, dSlice, hk, and_assoc] using hd
  · rename_i hk; simpa [cnd, dSlice, hk, and_assoc] using hd
  · rename_i hk; simpa [cnd, dSlice, hk, and_assoc] using hd
  · trivial
def dSrc (h : HS) : SV → Bool
  | .vec id ver => match getV h.vecs id with
    | .live ver' _ _ _ _ => decide (ver = ver')
    | .dead => true
  | .vcut id ver sz lo n _ => match getV h.vecs id with
    | .live ver' _ sz' _ _ => decide (ver = ver') && decide (sz = sz')
    | .dead => true
  | .bsl nm off n => match getB h.blks nm with
    | .live _ cells => decide (off + n ≤ lenS cells)
    | _ => true
  | _ => true
theorem dSrc_ok {h : HS} {x : SV} {p : Prop} {q : Nat × Nat × (Nat → Nat → SV)} (hd : dSrc h x = true) (hs : srcOf h x = some (p, q)) : p := by
  unfold dSrc at hd
  unfold srcOf at hs
  split at hs
  · cases hs; trivial
  · unfold srcV at hs
    split at hs
    · rename_i hb; cases hs; simpa [hb] using hd
    · cases hs
  · unfold srcC at hs
    split at hs
    · rename_i hb; cases hs; simpa [hb] using hd
    · cases hs
  · unfold srcB at hs
    split at hs
    · rename_i hb; cases hs; simpa [hb] using hd
    · cases hs
  · cases hs; trivial
  · cases hs
def dAp (e : TypeId) (te : TI) (ver ver' e' sz n : Nat) (lo0 : Bool) (s : Option (Prop × Nat × Nat × (Nat → Nat → SV))) : Bool := match s with
  | some (_, m, sz', _) => decide (ver = ver') && decide (e = e') && decide (sz = te.size) && decide (sz' = sz) && lo0 && decide (((n + m : Nat) : Int) * (te.bytes : Int) ≤ 140737488355328) && decide (((n + m : Nat) : Int) ≤ 9223372036854775807)
  | none => true
def dPos (s : Option (Prop × Nat × Nat × (Nat → Nat → SV))) : Bool := match s with
  | some (_, m, _, _) => decide (0 < m)
  | none => true
def dAppend (e : TypeId) (te : TI) (s x : SV) (h : HS) : Bool :=
  dSrc h x && match s with
  | .vec id ver => match getV h.vecs id with
    | .live ver' e' sz n f => dAp e te ver ver' e' sz n true (srcOf h x)
    | .dead => true
  | .vcut id ver sz lo n x1 => match getV h.vecs id with
    | .live ver' e' sz2 _ f => dAp e te ver ver' e' sz n (decide (sz2 = sz) && (decide (lo = 0) || (x1 && dPos (srcOf h x)))) (srcOf h x)
    | .dead => true
  | .nils e' sz => dAp e te 0 0 e' sz 0 true (srcOf h x)
  | _ => true
theorem dAppend_ok {e : TypeId} {te : TI} {s x : SV} {h : HS} (hd : dAppend e te s x h = true) : cnd (rAppend e te s x h) := by
  unfold dAppend at hd
  rw [Bool.and_eq_true] at hd
  obtain ⟨h1, h2⟩ := hd
  have hp : ∀ p q, srcOf h x = some (p, q) → p := fun p q hs => dSrc_ok h1 hs
  unfold rAppend
  split
  · unfold apV
    split
    · rename_i hv hs
      have := hp _ _ hs
      simp only [hv, hs, dAp, Bool.and_eq_true, decide_eq_true_eq] at h2
      simp only [cnd]
      exact ⟨this, h2.1.1.1.1.1.1, h2.1.1.1.1.1.2, h2.1.1.1.1.2, h2.1.1.1.2, h2.1.2, h2.2⟩
    · trivial
  · unfold apCX
    split
    · unfold apX
      split
      · rename_i hv hs
        have := hp _ _ hs
        simp only [hv, hs, dAp, dPos, Bool.and_eq_true, Bool.or_eq_true, decide_eq_true_eq] at h2
        simp only [cnd]
        obtain ⟨⟨⟨⟨⟨⟨a1, a2⟩, a3⟩, a4⟩, a5, a6⟩, a7⟩, a8⟩ := h2
        refine ⟨this, ?_, a1, a2, a3, a5, a4, a7, a8⟩
        rcases a6 with a6 | a6
        · omega
        · exact a6.2
      · trivial
    · rename_i hne
      unfold apC
      split
      · rename_i hv hs
        have := hp _ _ hs
        simp only [hv, hs, dAp, dPos, Bool.and_eq_true, Bool.or_eq_true, decide_eq_true_eq] at h2
        simp only [cnd]
        obtain ⟨⟨⟨⟨⟨⟨a1, a2⟩, a3⟩, a4⟩, a5, a6⟩, a7⟩, a8⟩ := h2
        refine ⟨this, a1, a2, a3, a5, a4, ?_, a7, a8⟩
        rcases a6 with a6 | a6
        · exact a6
        · skip
          exact Decidable.byContradiction fun h0 => hne _ (Nat.succ_pred_eq_of_ne_zero h0).symm a6.1
      · trivial
  · unfold apN
    split
    · rename_i hs
      have := hp _ _ hs
      simp only [hs, dAp, Bool.and_eq_true, decide_eq_true_eq] at h2
      simp only [cnd]
      exact ⟨this, h2.1.1.1.1.1.2, h2.1.1.1.1.2, h2.1.1.1.2, h2.1.2, h2.2⟩
    · trivial
  · trivial
def dCut (n : Nat) (l u : Option Int) (mx : Option SV) : Bool :=
  match l, u with
  | some l, some u => (match mx with
    | some (.int _ m) => decide (m = u)
    | _ => true) && decide (0 ≤ l) && decide (l ≤ u) && decide (u ≤ (n : Int))
  | _, _ => true
theorem dCut_ok {p : Prop} {id ver sz lo n : Nat} {h : HS} {l u : Option Int} {mx : Option SV} (hp : p) (hd : dCut n l u mx = true) : cnd (cutR p id ver sz lo n h l u mx) := by
  unfold cutR
  split
  · rename_i l u
    simp only [dCut, Bool.and_eq_true, decide_eq_true_eq] at hd
    obtain ⟨⟨⟨h1, h2⟩, h3⟩, h4⟩ := hd
    unfold maxO
    split
    · rename_i q x hm
      split at hm
      · cases hm; exact ⟨hp, trivial, h2, h3, h4⟩
      · cases hm; exact ⟨hp, by simpa using h1, h2, h3, h4⟩
      · cases hm
    · trivial
  · trivial
theorem cutR_s {p : Prop} {id ver sz lo n : Nat} {h : HS} {l u : Option Int} {mx : Option SV} : same h (cutR p id ver sz lo n h l u mx) := by
  unfold cutR; repeat' split
  all_goals first | rfl | trivial
def dSliceV (se : Nat) (x : SV) (lo hi mx : Option SV) (h : HS) : Bool :=
  match x with
  | .vec id ver => match getV h.vecs id with
    | .live ver' _ sz n _ => decide (ver = ver') && decide (se = sz) && dCut n (intO 0 lo) (intO (n : Int) hi) mx
    | .dead => true
  | .vcut id ver sz lo0 n x => decide (se = sz) && dCut n (intO 0 lo) (intO (n : Int) hi) mx
  | _ => true
theorem dSliceV_ok {se : Nat} {x : SV} {lo hi mx : Option SV} {h : HS} (hd : dSliceV se x lo hi mx h = true) : cnd (rSliceV se x lo hi mx h) := by
  unfold rSliceV
  split
  · unfold sliV
    split
    · rename_i hv
      simp only [dSliceV, hv, Bool.and_eq_true, decide_eq_true_eq] at hd
      exact dCut_ok hd.1 hd.2
    · trivial
  · simp only [dSliceV, Bool.and_eq_true, decide_eq_true_eq] at hd
    unfold sliC
    split
    · trivial
    · exact dCut_ok hd.1 hd.2
  · trivial
theorem rSliceV_s {se : Nat} {x : SV} {lo hi mx : Option SV} {h : HS} : same h (rSliceV se x lo hi mx h) := by
  unfold rSliceV sliV sliC; repeat' split
  all_goals first | exact cutR_s | trivial
theorem rSlice_s {ti : TI} {x : SV} {lo hi : Option SV} {h : HS} : same h (rSlice ti x lo hi h) := by
  unfold rSlice; repeat' split
  all_goals first | rfl | trivial
def dSl (te ti : TI) (x : SV) (lo hi mx : Option SV) (h : HS) : Bool :=
  match x with
  | .row n sz f => dSlice ti (.row n sz f) lo hi
  | x => dSliceV te.size x lo hi mx h
theorem dSl_ok {te ti : TI} {g : Bool} {x : SV} {lo hi mx : Option SV} {h : HS} (hd : dSl te ti x lo hi mx h = true) : cnd (rSl te ti g x lo hi mx h) := by
  unfold rSl
  split
  · unfold rSlR
    split
    · split
      · exact dSlice_ok hd
      · trivial
    · trivial
  · unfold rSlG
    split
    · exact dSliceV_ok hd
    · trivial
  · unfold rSlG
    split
    · exact dSliceV_ok hd
    · trivial
  · trivial
theorem rSl_s {te ti : TI} {g : Bool} {x : SV} {lo hi mx : Option SV} {h : HS} : same h (rSl te ti g x lo hi mx h) := by
  unfold rSl rSlR rSlG; repeat' split
  all_goals first | exact rSlice_s | exact rSliceV_s | trivial
def dSlA (n : Nat) (te : TI) (x : SV) (lo hi mx : Option SV) : Bool :=
  match intO (n : Int) hi with
  | some u => decide (te.size = 1) && decide (0 ≤ u) && decide (u ≤ (n : Int))
  | none => true
theorem dSlA_ok {n : Nat} {te : TI} {x : SV} {lo hi mx : Option SV} {h : HS} (hd : dSlA n te x lo hi mx = true) : cnd (rSlA n te x lo hi mx h) := by
  unfold rSlA
  split
  · split
    · rename_i hi; simpa [cnd, dSlA, hi, and_assoc] using hd
    · trivial
  · trivial
theorem rSlA_s {n : Nat} {te : TI} {x : SV} {lo hi mx : Option SV} {h : HS} : same h (rSlA n te x lo hi mx h) := by
  unfold rSlA; repeat' split
  all_goals first | rfl | trivial
def dClear (te : TI) (x : SV) (h : HS) : Bool :=
  match x with
  | .vec id ver => match getV h.vecs id with
    | .live ver' _ sz _ _ => decide (ver = ver') && decide (te.size = sz)
    | .dead => true
  | .vcut id ver sz lo n _ => match getV h.vecs id with
    | .live ver' _ sz' _ _ => decide (ver = ver') && decide (sz = sz') && decide (te.size = sz)
    | .dead => true
  | _ => true
theorem dClear_ok {te : TI} {x : SV} {h : HS} (hd : dClear te x h = true) : cnd (rClear te x h) := by
  unfold rClear
  split
  · unfold clrW
    split
    · rename_i hv; simpa [cnd, dClear, hv, and_assoc] using hd
    · trivial
  · unfold clrV
    split
    · rename_i hv; simpa [cnd, dClear, hv, and_assoc] using hd
    · trivial
  · trivial
def dCopy (te : TI) (d s : SV) (h : HS) : Bool :=
  dSrc h s && match d, srcOf h s with
  | .bsl nm off n, some (_, m, sz, _) => (match getB h.blks nm with
    | .live _ cells => decide (sz = 1) && decide (off + min m n ≤ lenS cells)
    | _ => true)
  | .vec id ver, some (_, m, sz, _) => (match getV h.vecs id with
    | .live ver' _ sz' _ _ => decide (ver = ver') && decide (sz = sz') && decide (te.size = sz')
    | .dead => true)
  | _, _ => true
theorem dCopy_ok {te : TI} {d s : SV} {h : HS} (hd : dCopy te d s h = true) : cnd (rCopy te d s h) := by
  unfold dCopy at hd
  rw [Bool.and_eq_true] at hd
  obtain ⟨h1, h2⟩ := hd
  have hp : ∀ p q, srcOf h s = some (p, q) → p := fun p q hs => dSrc_ok h1 hs
  unfold rCopy
  split
  · split
    · unfold cpyB
      split
      · rename_i hb hs
        have := hp _ _ hs
        simp only [hb, hs, Bool.and_eq_true, decide_eq_true_eq] at h2
        exact ⟨this, h2⟩
      · trivial
    · trivial
  · unfold cpyV
    split
    · rename_i hv hs
      have := hp _ _ hs
      simp only [hv, hs, Bool.and_eq_true, decide_eq_true_eq] at h2
      exact ⟨this, h2.1.1, h2.1.2, h2.2⟩
    · trivial
  · trivial
def dMake (te : TI) (l c : SV) : Bool :=
  match l, c with
  | .int _ l, .int _ c => decide (l = c) && decide (0 < te.size) && decide (0 ≤ l) && decide ((te.bytes : Int) * l ≤ 281474976710656) && decide (l ≤ 9223372036854775807)
  | _, _ => true
theorem dMake_ok {e : TypeId} {te : TI} {l c : SV} {h : HS} (hd : dMake te l c = true) : cnd (rMake e te l c h) := by
  unfold rMake
  split
  · simpa [cnd, dMake, and_assoc] using hd
  · trivial
def dIdx (n : Nat) (te : TI) (x idx : SV) : Bool :=
  match x, idx with
  | .agg l, .int _ i => decide (0 ≤ i) && decide (i < (n : Int)) && decide (i.toNat < lenS l) && decide (te.size = 1)
  | _, _ => true
theorem dIdx_ok {n : Nat} {te : TI} {x idx : SV} {h : HS} (hd : dIdx n te x idx = true) : cnd (rIdx n te x idx h) := by
  unfold rIdx
  split
  · split
    · trivial
    · simpa [cnd, dIdx, and_assoc] using hd
  · trivial
theorem rIdx_s {n : Nat} {te : TI} {x idx : SV} {h : HS} : same h (rIdx n te x idx h) := by
  unfold rIdx; repeat' split
  all_goals first | rfl | trivial
def dFld (ti : TI) (x : SV) (k : Nat) : Bool :=
  match ti.kind with
  | .struct offs => match nthO offs k with
    | some (o, s) => match x with
      | .agg l => decide (o + s ≤ lenS l)
      | _ => true
    | none => true
  | _ => true
theorem dFld_ok {ti : TI} {x : SV} {k : Nat} {h : HS} (hd : dFld ti x k = true) : cnd (rFld ti x k h) := by
  unfold dFld at hd; unfold rFld
  split
  · rename_i hk
    split
    · rename_i hn
      simp only [hk, hn] at hd
      split
      · simpa [cnd] using hd
      · trivial
    · trivial
  · trivial
theorem rFld_same {ti : TI} {x : SV} {k : Nat} {h : HS} : same h (rFld ti x k h) := by
  unfold rFld; repeat' split
  all_goals first | rfl | trivial
def dNext (h : HS) (x : SV) : Bool :=
  match x with
  | .ptr nm 0 => match getB h.blks nm with
    | .mp m => match m.it with
      | some (mnm, since, _) => match getB h.blks mnm with
        | .mp mm => decide (since = lenM mm.es)
        | _ => true
      | none => true
    | _ => true
  | _ => true
theorem dNext_ok {h : HS} {x : SV} (hd : dNext h x = true) : cnd (rNext x h) := by
  unfold rNext
  split
  rotate_left
  · trivial
  unfold rNextI
  split
  rotate_left
  · trivial
  rename_i hb
  unfold rNextM
  split
  rotate_left
  · trivial
  rename_i hm
  simpa [cnd, dNext, hb, hm] using hd
def dEntry (h : HS) (x : SV) : Bool :=
  match x with
  | .ptr nm 0 => match getB h.blks nm with
    | .mp m => match m.it with
      | some (mnm, since, i :: _) => match getB h.blks mnm with
        | .mp mm => decide (since = lenM mm.es) && decide (i < since)
        | _ => true
      | _ => true
    | _ => true
  | _ => true
theorem dEntry_ok {h : HS} {x : SV} (hd : dEntry h x = true) : cnd (rEntry x h) := by
  unfold rEntry
  split
  rotate_left
  · trivial
  unfold rEntI
  split
  rotate_left
  · trivial
  rename_i hb
  unfold rEntM
  split
  rotate_left
  · trivial
  rename_i hm
  simpa [cnd, dEntry, hb, hm] using hd
theorem rRange_c {ti : TI} {x : SV} {h : HS} : cnd (rRange ti x h) := by
  unfold rRange rRangeM; repeat' split
  all_goals trivial
end Go.Eng
end

/- Conditions of operations, reckoned. -/
section
namespace Go.Eng
open Go.RowKit
set_option linter.unusedVariables false

section
variable (T : Nat → Option TI) (F : Nat → Bool) (t : List SV) (h : HS)
def dMove (ty : TypeId) (x : Operand) : Bool :=
  match isNilSl x with
  | true => match T ty with
    | some ti => match ti.kind with
      | .slice e => match T e with
        | some te => decide (0 < te.size)
        | none => true
      | _ => true
    | none => true
  | false => true
def dStoreN (ti : TI) (x : SV) (b : Bool) (y : SV) : Bool :=
  match b with
  | false => match hasSl ti.zero with
    | true => dStore ti (ownS y h).2 x (ownS y h).1
    | false => dStore ti h x y
  | true => match ti.kind with
    | .slice e => match T e with
      | some te => decide (0 < te.size) && dStore ti { h with vecs := snocV h.vecs (.live 0 e te.size 0 (fun _ _ => .any)) } x (.vec (lenV h.vecs) 0)
      | none => true
    | _ => dStore ti h x y
def elT (ty : TypeId) : Option TI := match T ty with
  | some ti => match ti.kind with
    | .slice e => T e
    | _ => none
  | none => none
def elS (ty : TypeId) : TypeId := match T ty with
  | some ti => match ti.kind with
    | .slice e => e
    | _ => 0
  | none => 0
def dBuiltin (b : Builtin) (tys : List TypeId) (args : List SV) : Bool :=
  match b, tys, args with
  | .len, [ty], [x] => match T ty with
    | some ti => dLen ti h x
    | none => true
  | .append, [ty, ty'], [s, x] => match elT T ty with
    | some te => dAppend (elS T ty) te s x h
    | none => true
  | .clear, [ty], [x] => match elT T ty with
    | some te => dClear te x h
    | none => true
  | .copy, [ty, ty'], [d, s] => match elT T ty with
    | some te => dCopy te d s h
    | none => true
  | _, _, _ => true
def dCallN (n : Option (TypeId × Nat)) : Bool := match n with
  | none => true
  | some (_, sz) => decide (0 < sz)
def dOp (o : Oper) : Bool :=
  match o.op with
  | .move x => dMove T o.type x
  | .assign x => dMove T o.type x
  | .build ty ps => match T ty with
    | some ti => match ti.kind with
      | .array _ e => match T e with
        | some te => dBuild ti te.size (evP t ps.toList)
        | none => true
      | _ => dBuild ti 0 (evP t ps.toList)
    | none => true
  | .buildSlice ty len ps => match elT T ty with
    | some te => dBuildSlice te len (evP t ps.toList)
    | none => true
  | .load ty x => match T ty with
    | some ti => dLoad ti h (ev t x)
    | none => true
  | .store ty x y => match T ty with
    | some ti => dStoreN T h ti (ev t x) (isNilSl y) (ev t y)
    | none => true
  | .binOp op ty x y _ => dBin3 op (isNilSl y) (ev t x) (ev t y)
  | .makeSlice ty l c => match elT T ty with
    | some te => dMake te (ev t l) (ev t c)
    | none => true
  | .slice ty x lo hi mx => match T ty with
    | some ti => match ti.kind with
      | .slice e => match T e with
        | some te => dSl te ti (ev t x) (evO t lo) (evO t hi) (evO t mx) h
        | none => true
      | .array n e => match T e with
        | some te => dSlA n te (ev t x) (evO t lo) (evO t hi) (evO t mx)
        | none => true
      | _ => true
    | none => true
  | .fieldAddr ty x k => match T ty with
    | some ti => dField ti (ev t x) k
    | none => true
  | .indexAddr ty x y => match T ty with
    | some ti => match ti.kind with
      | .slice e => match T e with
        | some te => dIndex ti te.size h (ev t x) (ev t y)
        | none => true
      | .array _ e => match T e with
        | some te => dIndex ti te.size h (ev t x) (ev t y)
        | none => true
      | _ => true
    | none => true
  | .extract x k => dExtract (ev t x) k
  | .next x _ => dNext h (ev t x)
  | .entry x => dEntry h (ev t x)
  | .call c => match c.callee with
    | .value f => dCallN (lastN T c.args.toList c.argTypes.toList)
    | .builtin b => dBuiltin T h b c.argTypes.toList (evL t c.args.toList)
    | _ => true
  | .field ty x k => match T ty with
    | some ti => dFld ti (ev t x) k
    | none => true
  | .index ty x y => match T ty with
    | some ti => match ti.kind with
      | .array n e => match T e with
        | some te => dIdx n te (ev t x) (ev t y)
        | none => true
      | _ => true
    | none => true
  | _ => true
def noF (o : Oper) : Bool :=
  match o.op with
  | .binOp op ty x y _ => isNilSl y && nfNil h (ev t x)
  | _ => false
def pureO (o : Oper) : Bool :=
  match o.op with
  | .move x => !isNilSl x
  | .assign x => !isNilSl x
  | .pick _ _ _ | .build _ _ | .load _ _ | .nilCheck _ | .binOp _ _ _ _ _ | .unOp _ _ _ | .convert _ _ _ | .makeInterface _ _ | .makeFunc _ _ _ | .slice _ _ _ _ _ | .fieldAddr _ _ _ | .indexAddr _ _ _ | .typeAssert _ _ _ _ | .extract _ _ | .field _ _ _ | .index _ _ _ | .lookup _ _ _ _ => true
  | .call c => match c.callee with
    | .builtin .len => true
    | .builtin .max => true
    | .builtin .min => true
    | _ => false
  | _ => false
end

section
variable {T : Nat → Option TI} {F : Nat → Bool} {t : List SV} {h : HS}
theorem rMove_not {ty : TypeId} {x : Operand} (hx : isNilSl x = false) : rMove T t h ty x = .val True (ev t x) h := by
  unfold rMove
  split
  · simp [isNilSl] at hx
  · rfl
theorem dMove_ok {ty : TypeId} {x : Operand} (hd : dMove T ty x = true) : cnd (rMove T t h ty x) := by
  unfold dMove at hd
  split at hd
  · rename_i hx
    rw [isNilSl_eq hx]
    unfold rMove
    split
    · split
      · rename_i ht
        split
        · rename_i he; simpa [cnd, ht, he] using hd
        · trivial
      · trivial
    · trivial
  · rename_i hx; rw [rMove_not hx]; trivial
theorem skipAnd_c {p : Prop} {r : Res} (hp : p) (hr : cnd r) : cnd (skipAnd p r) := by
  unfold skipAnd; split
  · exact ⟨hp, hr⟩
  · trivial
theorem dStoreN_ok {ti : TI} {x y : SV} {b : Bool} (hd : dStoreN T h ti x b y = true) : cnd (rStoreN T h ti x b y) := by
  unfold dStoreN at hd; unfold rStoreN
  cases b with
  | false =>
    simp only at hd ⊢
    unfold rStoreO
    cases hs : hasSl ti.zero with
    | true => rw [hs] at hd; exact dStore_ok hd
    | false => rw [hs] at hd; exact dStore_ok hd
  | true =>
    simp only at hd ⊢
    split
    · rename_i hk
      simp only [hk] at hd
      split
      · rename_i he
        simp only [he, Bool.and_eq_true, decide_eq_true_eq] at hd
        exact skipAnd_c hd.1 (dStore_ok hd.2)
      · trivial
    · rename_i hk
      split at hd
      · rename_i e hk2; exact (hk _ hk2).elim
      · exact dStore_ok hd
theorem elT_some {ty e : TypeId} {ti : TI} (h1 : T ty = some ti) (h2 : ti.kind = .slice e) : elT T ty = T e ∧ elS T ty = e := by
  unfold elT elS; rw [h1]; simp only [h2]; exact ⟨trivial, trivial⟩
theorem dBuiltin_ok {b : Builtin} {tys : List TypeId} {args : List SV} (hd : dBuiltin T h b tys args = true) : cnd (rBuiltin T h b tys args) := by
  unfold rBuiltin
  split
  · simp only [dBuiltin] at hd
    split
    · rename_i ht; simp only [ht] at hd; exact dLen_ok hd
    · trivial
  · simp only [dBuiltin] at hd
    split
    · split
      · rename_i ht
        obtain ⟨e1, e2⟩ := elT_some ht rfl
        rw [e1, e2] at hd
        split
        · rename_i he; simp only [he] at hd; exact dAppend_ok hd
        · trivial
      · trivial
    · trivial
  · simp only [dBuiltin] at hd
    split
    · rename_i ht
      obtain ⟨e1, e2⟩ := elT_some ht rfl
      rw [e1] at hd
      split
      · rename_i he; simp only [he] at hd; exact dClear_ok hd
      · trivial
    · trivial
  · simp only [dBuiltin] at hd
    split
    · rename_i ht
      obtain ⟨e1, e2⟩ := elT_some ht rfl
      rw [e1] at hd
      split
      · rename_i he; simp only [he] at hd; exact dCopy_ok hd
      · trivial
    · trivial
  · unfold rMax; repeat' split
    all_goals trivial
  · unfold rMin; repeat' split
    all_goals trivial
  · trivial
theorem rBuiltin_s {b : Builtin} {tys : List TypeId} {args : List SV} (hb : b = .len ∨ b = .max ∨ b = .min) : same h (rBuiltin T h b tys args) := by
  unfold rBuiltin
  rcases hb with rfl | rfl | rfl
  · repeat' split
    all_goals first | exact rLen_s | trivial | contradiction
  · split <;> first | contradiction | (unfold rMax; repeat' split) | skip
    all_goals first | rfl | trivial
  · split <;> first | contradiction | (unfold rMin; repeat' split) | skip
    all_goals first | rfl | trivial
theorem rCall_c {f : SV} {args : List SV} : cnd (rCall F h f args) := by
  unfold rCall; repeat' split
  all_goals trivial
theorem dCallN_ok {n : Option (TypeId × Nat)} {f : SV} {args : List SV} (hd : dCallN n = true) : cnd (rCallN F h n f args) := by
  unfold rCallN
  split
  · exact rCall_c
  · simp only [dCallN, decide_eq_true_eq] at hd
    split
    · split
      · exact hd
      · trivial
    · trivial
theorem rBoxO_c {o : Option TI} {e : TypeId} {y : SV} : cnd (rBoxO h o e y) := by
  have hb : ∀ (y : SV) (h : HS), cnd (rBox e y h) := fun y h => by unfold rBox; split <;> trivial
  unfold rBoxO; repeat' split
  all_goals exact hb _ _
theorem rLookup_c {tk tv : TI} {ok : Bool} {x y : SV} : cnd (rLookup tk tv ok x y h) ∧ same h (rLookup tk tv ok x y h) := by
  unfold rLookup rLookB gLook; repeat' split
  all_goals first | exact ⟨trivial, rfl⟩ | exact ⟨trivial, trivial⟩
theorem mLk_c {ok : Bool} {x y : SV} {o : Option TI} : cnd (mLk T ok x y h o) ∧ same h (mLk T ok x y h o) := by
  unfold mLk; split
  · unfold mLk2; split
    · exact rLookup_c
    · exact ⟨trivial, trivial⟩
  · exact ⟨trivial, trivial⟩
theorem mUp_c {x y z : SV} {o : Option TI} : cnd (mUp T x y z h o) := by
  unfold mUp; split
  · unfold mUp2; split
    · unfold rUpdate rUpdB; repeat' split
      all_goals trivial
    · trivial
  · trivial
theorem mMk_c {o : Option TI} : cnd (mMk T h o) := by
  unfold mMk; split
  · unfold mMk2; split
    · unfold rMakeMap mkMp; split <;> trivial
    · trivial
  · trivial
theorem rFunc_c {fn : Fn} {a b : List SV} : cnd (rFunc h fn a b) ∧ same h (rFunc h fn a b) := by
  unfold rFunc; repeat' split
  all_goals first | exact ⟨trivial, rfl⟩ | exact ⟨trivial, trivial⟩
theorem rAssert_c {ti : TI} {ty : TypeId} {x : SV} {ok : Bool} : cnd (rAssert ti ty x ok h) ∧ same h (rAssert ti ty x ok h) := by
  unfold rAssert; repeat' split
  all_goals first | exact ⟨trivial, rfl⟩ | exact ⟨trivial, trivial⟩
theorem rUn_c {op : UnOp} {x : SV} : cnd (rUn op x h) ∧ same h (rUn op x h) := by
  unfold rUn; split <;> first | exact ⟨trivial, rfl⟩ | exact ⟨trivial, trivial⟩
theorem rConv_c {ti : TI} {x : SV} : cnd (rConv ti x h) ∧ same h (rConv ti x h) := by
  unfold rConv; split <;> first | exact ⟨trivial, rfl⟩ | exact ⟨trivial, trivial⟩
theorem rIface_c {ti : TI} {ty : TypeId} {x : SV} : cnd (rIface ti ty x h) ∧ same h (rIface ti ty x h) := by
  unfold rIface; split <;> first | exact ⟨trivial, rfl⟩ | exact ⟨trivial, trivial⟩
theorem rNil_c {x : SV} : cnd (rNil h x) ∧ same h (rNil h x) := by
  unfold rNil; split <;> first | exact ⟨trivial, rfl⟩ | exact ⟨trivial, trivial⟩
theorem rPick_c {a b c : SV} : cnd (rPick h a b c) ∧ same h (rPick h a b c) := by
  unfold rPick; split <;> first | exact ⟨trivial, rfl⟩ | exact ⟨trivial, trivial⟩
theorem rExtract_s {x : SV} {i : Nat} : same h (rExtract x i h) := by
  unfold rExtract; split <;> first | rfl | trivial

theorem dOp_ok {o : Oper} (hd : dOp T t h o = true) : cnd (opRes T F t h o) := by
  obtain ⟨dst, op, type, pos, aft, guard⟩ := o
  cases op <;> simp only [opRes] <;> simp only [dOp] at hd
  case move x => exact dMove_ok hd
  case assign x => exact dMove_ok hd
  case pick => exact rPick_c.1
  case nilCheck => exact rNil_c.1
  case alloc =>
    split
    · unfold rAlloc; trivial
    · trivial
  case box => exact rBoxO_c
  case build =>
    split
    · rename_i ht
      simp only [ht] at hd
      split
      · rename_i hk
        simp only [hk] at hd
        split
        · rename_i he; simp only [he] at hd; exact dBuild_ok hd
        · trivial
      · rename_i hk
        split at hd
        · rename_i hk2; exact (hk _ _ hk2).elim
        · exact dBuild_ok hd
    · trivial
  case buildSlice =>
    split
    · rename_i ht
      obtain ⟨e1, e2⟩ := elT_some ht rfl
      rw [e1] at hd
      split
      · rename_i he; simp only [he] at hd; exact dBuildSlice_ok hd
      · trivial
    · trivial
  case load =>
    split
    · rename_i ht; simp only [ht] at hd; exact dLoad_ok hd
    · trivial
  case store =>
    split
    · rename_i ht; simp only [ht] at hd; exact dStoreN_ok hd
    · trivial
  case binOp => exact rBin3_c hd
  case unOp => exact rUn_c.1
  case convert =>
    split
    · exact rConv_c.1
    · trivial
  case makeInterface =>
    split
    · exact rIface_c.1
    · trivial
  case makeFunc => exact rFunc_c.1
  case makeSlice =>
    split
    · rename_i ht
      obtain ⟨e1, e2⟩ := elT_some ht rfl
      rw [e1] at hd
      split
      · rename_i he; simp only [he] at hd; exact dMake_ok hd
      · trivial
    · trivial
  case slice =>
    split
    · rename_i ht
      simp only [ht] at hd
      split
      · rename_i hk
        simp only [hk] at hd
        split
        · rename_i he; simp only [he] at hd; exact dSl_ok hd
        · trivial
      · rename_i hk
        simp only [hk] at hd
        split
        · rename_i he; simp only [he] at hd; exact dSlA_ok hd
        · trivial
      · trivial
    · trivial
  case fieldAddr =>
    split
    · rename_i ht; simp only [ht] at hd; exact dField_ok hd
    · trivial
  case indexAddr =>
    split
    · rename_i ht
      simp only [ht] at hd
      split
      · rename_i hk
        simp only [hk] at hd
        split
        · rename_i he; simp only [he] at hd; exact dIndex_ok hd
        · trivial
      · rename_i hk
        simp only [hk] at hd
        split
        · rename_i he; simp only [he] at hd; exact dIndex_ok hd
        · trivial
      · trivial
    · trivial
  case typeAssert =>
    split
    · exact rAssert_c.1
    · trivial
  case extract => exact dExtract_ok hd
  case call =>
    split
    · rename_i hc; simp only [hc] at hd; exact dCallN_ok hd
    · rename_i hc; simp only [hc] at hd; exact dBuiltin_ok hd
    · trivial
  case panic => unfold rPanic; split <;> trivial
  case makeMap ty n => cases n <;> first | exact mMk_c | trivial
  case lookup => exact mLk_c.1
  case range =>
    split
    · exact rRange_c
    · trivial
  case next x b => cases b <;> first | exact dNext_ok hd | trivial
  case entry => exact dEntry_ok hd
  case mapUpdate => exact mUp_c
  case insert => exact mUp_c
  case field =>
    unfold mFd
    split
    · rename_i ht; simp only [ht] at hd; exact dFld_ok hd
    · trivial
  case index =>
    split
    · rename_i ht
      simp only [ht] at hd
      split
      · rename_i hk
        simp only [hk] at hd
        split
        · rename_i he; simp only [he] at hd; exact dIdx_ok hd
        · trivial
      · trivial
    · trivial
  all_goals trivial
theorem noF_ok {o : Oper} (hd : noF t h o = true) : nfk (opRes T F t h o) := by
  obtain ⟨dst, op, type, pos, aft, guard⟩ := o
  cases op <;> simp only [noF] at hd <;> (try (cases hd; done))
  simp only [opRes]
  rw [Bool.and_eq_true] at hd
  unfold rBin3
  rw [hd.1]
  exact nfNil_ok hd.2
theorem pure_s {o : Oper} (hp : pureO o = true) : same h (opRes T F t h o) := by
  obtain ⟨dst, op, type, pos, aft, guard⟩ := o
  cases op <;> simp only [pureO] at hp <;> (try (cases hp; done)) <;> simp only [opRes]
  case move x => rw [rMove_not (by simpa using hp)]; rfl
  case assign x => rw [rMove_not (by simpa using hp)]; rfl
  case pick => exact rPick_c.2
  case nilCheck => exact rNil_c.2
  case build =>
    repeat' split
    all_goals first | exact rBuild_same | trivial
  case load =>
    split
    · exact rLoad_s
    · trivial
  case binOp => exact rBin3_s
  case unOp => exact rUn_c.2
  case convert =>
    split
    · exact rConv_c.2
    · trivial
  case makeInterface =>
    split
    · exact rIface_c.2
    · trivial
  case makeFunc => exact rFunc_c.2
  case slice =>
    repeat' split
    all_goals first | exact rSl_s | exact rSlA_s | trivial
  case fieldAddr =>
    split
    · exact rField_s
    · trivial
  case indexAddr =>
    repeat' split
    all_goals first | exact rIndex_s | trivial
  case typeAssert =>
    split
    · exact rAssert_c.2
    · trivial
  case extract => exact rExtract_s
  case call c =>
    obtain ⟨callee, args, tys⟩ := c
    simp only at hp
    split at hp
    · exact rBuiltin_s (.inl rfl)
    · exact rBuiltin_s (.inr (.inl rfl))
    · exact rBuiltin_s (.inr (.inr rfl))
    · cases hp
  case lookup => exact mLk_c.2
  case field =>
    unfold mFd
    split
    · exact rFld_same
    · trivial
  case index =>
    repeat' split
    all_goals first | exact rIdx_s | trivial
end
end Go.Eng
end

/- The symbolic machine as a program: a run is reckoned, loops round by round. -/
section
namespace Go.Eng
open Go.RowKit
set_option linter.unusedVariables false

def eqL (f : SV → SV → Bool) : List SV → List SV → Bool
  | [], [] => true
  | x :: l, y :: k => f x y && eqL f l k
  | _, _ => false
def svEq : Nat → SV → SV → Bool
  | 0, _, _ => false
  | n + 1, x, y => match x, y with
    | .any, .any => true
    | .int k a, .int k' b => decide (k = k') && decide (a = b)
    | .bool a, .bool b => a == b
    | .ptr a b, .ptr c d => decide (a = c) && decide (b = d)
    | .nilp, .nilp => true
    | .nils a b, .nils c d => decide (a = c) && decide (b = d)
    | .vec a b, .vec c d => decide (a = c) && decide (b = d)
    | .vptr a b c d e, .vptr a' b' c' d' e' => decide (a = a') && decide (b = b') && decide (c = c') && decide (d = d') && decide (e = e')
    | .vcut a b c d e x, .vcut a' b' c' d' e' x' => decide (a = a') && decide (b = b') && decide (c = c') && decide (d = d') && decide (e = e') && (x == x')
    | .bsl a b c, .bsl a' b' c' => decide (a = a') && decide (b = b') && decide (c = c')
    | .mapp a, .mapp b => decide (a = b)
    | .func g l, .func g' l' => decide (g = g') && eqL (svEq n) l l'
    | .nilf, .nilf => true
    | .nili, .nili => true
    | .iface a v, .iface b u => decide (a = b) && svEq n v u
    | .agg l, .agg l' => eqL (svEq n) l l'
    | .tup l, .tup l' => eqL (svEq n) l l'
    | .yield a, .yield b => decide (a = b)
    | .meth g l, .meth g' l' => decide (g = g') && eqL (svEq n) l l'
    | _, _ => false
theorem eqL_ok {f : SV → SV → Bool} (hf : ∀ x y, f x y = true → x = y) : ∀ {l k : List SV}, eqL f l k = true → l = k
  | [], [], _ => rfl
  | x :: l, y :: k, h => by
    simp only [eqL, Bool.and_eq_true] at h
    rw [hf _ _ h.1, eqL_ok hf h.2]
  | [], _ :: _, h => by simp [eqL] at h
  | _ :: _, [], h => by simp [eqL] at h
theorem svEq_ok : ∀ (n : Nat) (x y : SV), svEq n x y = true → x = y
  | 0, _, _, h => by simp [svEq] at h
  | n + 1, x, y, h => by
    have ih := svEq_ok n
    unfold svEq at h
    split at h <;> first
      | rfl
      | (cases h; done)
      | (try simp only [Bool.and_eq_true, decide_eq_true_eq, beq_iff_eq] at h
         simp only [SV.int.injEq, SV.bool.injEq, SV.ptr.injEq, SV.nils.injEq, SV.vec.injEq, SV.vptr.injEq, SV.vcut.injEq, SV.bsl.injEq, SV.mapp.injEq, SV.func.injEq, SV.iface.injEq, SV.agg.injEq, SV.tup.injEq, SV.yield.injEq, SV.meth.injEq]
         first
          | exact h
          | exact ⟨h.1.1.1.1, h.1.1.1.2, h.1.1.2, h.1.2, h.2⟩
          | exact ⟨h.1.1.1.1.1, h.1.1.1.1.2, h.1.1.1.2, h.1.1.2, h.1.2, h.2⟩
          | exact ⟨h.1.1, h.1.2, h.2⟩
          | exact ⟨h.1, eqL_ok ih h.2⟩
          | exact ⟨h.1, ih _ _ h.2⟩
          | exact eqL_ok ih h)

abbrev RnB : Type 1 := Ctx → Nat → List It → List SV → List Fr → HS → (Out → HS → Bool) → Bool
def Ctx.dfr (C : Ctx) (l : List Nat) : Ctx := { C with D := some l }

def dResL (T : Nat → Option TI) (t : List SV) (h : HS) : List ResultVar → Bool
  | [] => true
  | .tmp _ :: l => dResL T t h l
  | .cell a ty :: l => match T ty with
    | some ti => dLoad ti h (nth t a) && dResL T t h l
    | none => true
theorem dResL_ok {T : Nat → Option TI} {t : List SV} {h : HS} : ∀ {l : List ResultVar} {p : Prop} {vs : List SV}, dResL T t h l = true → resL T t h l = some (p, vs) → p
  | [], p, vs, _, h => by simp only [resL, Option.some.injEq, Prod.mk.injEq] at h; exact h.1 ▸ trivial
  | .tmp i :: l, p, vs, hd, hr => by
    simp only [resL] at hr
    simp only [dResL] at hd
    split at hr
    · rename_i h1; simp only [Option.some.injEq, Prod.mk.injEq] at hr; exact hr.1 ▸ dResL_ok hd h1
    · cases hr
  | .cell a ty :: l, p, vs, hd, hr => by
    simp only [resL] at hr
    simp only [dResL] at hd
    split at hr
    · rename_i ti ht
      simp only [ht, Bool.and_eq_true] at hd
      split at hr
      · rename_i q v h' p' vs' h1 h2
        simp only [Option.some.injEq, Prod.mk.injEq] at hr
        have := dLoad_ok hd.1
        rw [h1] at this
        exact hr.1 ▸ ⟨this, dResL_ok hd.2 h2⟩
      · cases hr
    · cases hr
def dResK (T : Nat → Option TI) (h : HS) : List ResultVar → List SV → Bool
  | [], _ => true
  | .tmp _ :: l, _ :: ts => dResK T h l ts
  | .cell _ ty :: l, x :: ts => match T ty with
    | some ti => dLoad ti h x && dResK T h l ts
    | none => true
  | _ :: _, [] => true
theorem dResK_ok {T : Nat → Option TI} {h : HS} : ∀ {l : List ResultVar} {ts : List SV} {p : Prop} {vs : List SV}, dResK T h l ts = true → resK T h l ts = some (p, vs) → p
  | [], ts, p, vs, _, h => by simp only [resK, Option.some.injEq, Prod.mk.injEq] at h; exact h.1 ▸ trivial
  | .tmp i :: l, x :: ts, p, vs, hd, hr => by
    simp only [resK] at hr
    simp only [dResK] at hd
    split at hr
    · rename_i h1; simp only [Option.some.injEq, Prod.mk.injEq] at hr; exact hr.1 ▸ dResK_ok hd h1
    · cases hr
  | .cell a ty :: l, x :: ts, p, vs, hd, hr => by
    simp only [resK] at hr
    simp only [dResK] at hd
    split at hr
    · rename_i ti ht
      simp only [ht, Bool.and_eq_true] at hd
      split at hr
      · rename_i q v h' p' vs' h1 h2
        simp only [Option.some.injEq, Prod.mk.injEq] at hr
        have := dLoad_ok hd.1
        rw [h1] at this
        exact hr.1 ▸ ⟨this, dResK_ok hd.2 h2⟩
      · cases hr
    · cases hr
  | .tmp i :: l, [], p, vs, hd, hr => by simp [resK] at hr
  | .cell a ty :: l, [], p, vs, hd, hr => by simp [resK] at hr
def noInvB : List It → Bool
  | [] => true
  | .inv _ _ _ _ _ :: _ => false
  | .endR _ :: _ => false
  | .code _ :: k => noInvB k
  | .blk _ :: k => noInvB k
  | .reg _ _ :: k => noInvB k
  | .inRng _ :: k => noInvB k
  | .endRng _ :: k => noInvB k
  | .beginR :: k => noInvB k
  | .aga _ :: k => noInvB k
  | .scp _ :: k => noInvB k
theorem noInvB_ok : ∀ {k : List It}, noInvB k = true → noInv k
  | [], _ => by simp only [noInv]
  | .inv _ _ _ _ _ :: _, h => by simp [noInvB] at h
  | .endR _ :: _, h => by simp [noInvB] at h
  | .code _ :: k, h => by simp only [noInvB] at h; simp only [noInv]; exact noInvB_ok h
  | .blk _ :: k, h => by simp only [noInvB] at h; simp only [noInv]; exact noInvB_ok h
  | .reg _ _ :: k, h => by simp only [noInvB] at h; simp only [noInv]; exact noInvB_ok h
  | .inRng _ :: k, h => by simp only [noInvB] at h; simp only [noInv]; exact noInvB_ok h
  | .endRng _ :: k, h => by simp only [noInvB] at h; simp only [noInv]; exact noInvB_ok h
  | .beginR :: k, h => by simp only [noInvB] at h; simp only [noInv]; exact noInvB_ok h
  | .aga _ :: k, h => by simp only [noInvB] at h; simp only [noInv]; exact noInvB_ok h
  | .scp _ :: k, h => by simp only [noInvB] at h; simp only [noInv]; exact noInvB_ok h

def panB (D : Option (List Nat)) (Q : Out → HS → Bool) (t : List SV) (v : SV) (h : HS) : Bool :=
  match D with
  | none => Q (.pan v) h
  | some l => Q (.fin (some v) (keepN t l)) h
def outB (S : List SV → HS → Bool) (X : List SV → SV → HS → Bool) (t : List SV) (dst : Option Nat) (o : Out) (h : HS) : Bool :=
  match o with
  | .ret v => S (put t dst v) h
  | .pan v => X t v h
  | _ => false
def stopB (D : Option (List Nat)) (Q : Out → HS → Bool) (k : List It) (t : List SV) (h : HS) : Bool :=
  match D with
  | none => false
  | some _ => Q (.stop k t) h
section
variable (C : Ctx) (R : RnB)
def popB (v : SV) (fs : List Fr) (h : HS) (Q : Out → HS → Bool) : Bool :=
  match fs with
  | [] => Q (.ret v) h
  | ⟨fid, .reg ops (i :: idx) :: k, t⟩ :: fs => match getO ops.toList i with
    | some o => R C fid (.reg ops idx :: k) (put t o.dst v) fs h Q
    | none => false
  | ⟨fid, .inRng nm :: k, t⟩ :: fs => R C fid (.endRng nm :: k) t fs h Q
  | _ => false
def popRB (v : SV) (fs : List Fr) (h : HS) (Q : Out → HS → Bool) : Bool :=
  match fs with
  | ⟨fid, .reg ops (i :: idx) :: k, t⟩ :: fs => match getO ops.toList i with
    | some o => R C fid (.reg ops idx :: k) (put t o.dst v) fs h Q
    | none => false
  | [] => match C.D, C.rd with
    | none, true => Q (.rnd v) h
    | _, _ => false
  | _ => false
def endRB (b : Blk) (nm : Nat) (jump : Option Code) (fs : List Fr) (h : HS) (Q : Out → HS → Bool) : Bool :=
  match b with
  | .loop _ _ fid t params assign body => popRB C R (.bool jump.isNone) fs { h with blks := setB h.blks nm (.loop (if jump.isNone then .ready else .done) jump fid t params assign body) } Q
  | _ => false
def beginRB (x : Option Nat) (fid : Nat) (k : List It) (t : List SV) (fs : List Fr) (h : HS) (Q : Out → HS → Bool) : Bool :=
  match x with
  | some nm => match getB h.blks nm with
    | .loop .ready pend fid' t' params assign body => R C fid k t fs { h with blks := setB h.blks nm (.loop .busy pend fid' t' params assign body) } Q
    | _ => false
  | none => false
def endRngB (b : Blk) (nm fid : Nat) (k : List It) (t : List SV) (fs : List Fr) (h : HS) (Q : Out → HS → Bool) : Bool :=
  match b with
  | .loop .ready none _ _ _ _ _ => R C fid k t fs { h with blks := setB h.blks nm .dead } Q
  | .loop .done none _ _ _ _ _ => R C fid k t fs { h with blks := setB h.blks nm .dead } Q
  | .loop .done (some c) _ _ _ _ _ => R C fid (.code c :: k) t fs { h with blks := setB h.blks nm .dead } Q
  | _ => false
def retB (x : Option Nat) (jump : Code) (fs : List Fr) (h : HS) (Q : Out → HS → Bool) (els : Bool) : Bool :=
  match x with
  | none => els
  | some nm => endRB C R (getB h.blks nm) nm (some jump) fs h Q
def leaveB (D : Option (List Nat)) (fid : Nat) (t : List SV) (fs : List Fr) (h : HS) (Q : Out → HS → Bool) (fn : Option Func) : Bool :=
  match D with
  | none => match fn with
    | some fn => match resL C.T t h fn.results.toList with
      | some (p, vs) => dResL C.T t h fn.results.toList && popB C R (oneR vs) fs h Q
      | none => false
    | none => false
  | some l => Q (.fin none (keepN t l)) h
def condB (x : SV) (fid : Nat) (a b : Code) (k : List It) (t : List SV) (fs : List Fr) (h : HS) (Q : Out → HS → Bool) : Bool :=
  match x with
  | .bool true => R C fid (.code a :: k) t fs h Q
  | .bool false => R C fid (.code b :: k) t fs h Q
  | _ => false
def exitB (id : Nat) (k0 : List It) (k : Option (List It)) (fid : Nat) (t : List SV) (fs : List Fr) (h : HS) (Q : Out → HS → Bool) : Bool :=
  match k with
  | some k => R C fid k t fs h Q
  | none => retB C R (rnd k0) (.exit id) fs h Q false
def rngGoB (D : Option (List Nat)) (fn : Option Func) (g : Nat) (args : List SV) (nm fid : Nat) (k : List It) (t : List SV) (fs : List Fr) (h : HS) (Q : Out → HS → Bool) : Bool :=
  match fn with
  | some fn => match fn.body with
    | some c => match D with
      | none => R C g [.code c] (catS args (anys (fn.ntmps - lenS args))) (⟨fid, .inRng nm :: k, t⟩ :: fs) h Q
      | some _ => R C.off g [.code c] (catS args (anys (fn.ntmps - lenS args))) [] h (outB (fun t' h' => R C fid (.endRng nm :: k) t' fs h' Q) (panB C.D Q) t none)
    | none => false
  | none => false
def rngB (f : SV) (params : Array Nat) (assign body : Code) (fid : Nat) (k : List It) (t : List SV) (fs : List Fr) (h : HS) (Q : Out → HS → Bool) : Bool :=
  match f with
  | .func g caps => C.F g && ((rnd k).isNone && rngGoB C R C.D (C.FN g) g (.yield (lenB h.blks) :: caps) (lenB h.blks) fid k t fs { h with blks := snocB h.blks (.loop .ready none fid t params assign body) } Q)
  | _ => false
def roundB (D : Option (List Nat)) (ok : Bool) (nm rf : Nat) (rt : List SV) (assign body : Code) (fid : Nat) (ops : Array Oper) (i : Nat) (idx : List Nat) (k : List It) (t : List SV) (fs : List Fr) (h : HS) (Q : Out → HS → Bool) : Bool :=
  match C.rs, D with
  | false, none => ok && R C rf [.code assign, .beginR, .code body, .endR nm] rt (⟨fid, .reg ops (i :: idx) :: k, t⟩ :: fs) h Q
  | _, _ => false
def inlB (D : Option (List Nat)) (fn : Option Func) (g : Nat) (args : List SV) (fid : Nat) (ops : Array Oper) (i : Nat) (idx : List Nat) (dst : Option Nat) (k : List It) (t : List SV) (fs : List Fr) (h : HS) (Q : Out → HS → Bool) : Bool :=
  match fn with
  | some fn => match fn.body with
    | some c => match D with
      | none => R C g [.code c] (catS args (anys (fn.ntmps - lenS args))) (⟨fid, .reg ops (i :: idx) :: k, t⟩ :: fs) h Q
      | some _ => R C.off g [.code c] (catS args (anys (fn.ntmps - lenS args))) [] h (outB (fun t' h' => R C fid (.reg ops idx :: k) t' fs h' Q) (panB C.D Q) t dst)
    | none => false
  | none => false

/- A function that defers one call. -/
def resultB (fn : Func) (K : Out → HS → Bool) (ts : List SV) (p : Option SV) (h : HS) : Bool :=
  match p with
  | none => match resK C.T h fn.results.toList ts with
    | some (q, vs) => dResK C.T h fn.results.toList ts && K (.ret (oneR vs)) h
    | none => false
  | some v => K (.pan v) h
def rcvEndB (K : Option SV → HS → Bool) (o : Out) (h : HS) : Bool :=
  match o with
  | .fin none _ => K none h
  | _ => false
def rcvOpB (p : Option SV) (K : Option SV → HS → Bool) (g : Nat) (o : Option Oper) (ops : Array Oper) (idx : List Nat) (k : List It) (t : List SV) (h : HS) : Bool :=
  match o with
  | some ⟨dst, .call ⟨.builtin .recover, ⟨[]⟩, _⟩, _, _, _, none⟩ => noInvB k && R (C.dfr []) g (.reg ops idx :: k) (put t dst (gotS p)) [] h (rcvEndB K)
  | _ => false
def rcvB (p : Option SV) (K : Option SV → HS → Bool) (g : Nat) (o : Out) (h : HS) : Bool :=
  match o with
  | .stop (.reg ops (i :: idx) :: k) t => rcvOpB C R p K g (getO ops.toList i) ops idx k t h
  | _ => false
def defB (g : Nat) (args : List SV) (p : Option SV) (h : HS) (K : Option SV → HS → Bool) : Bool :=
  match C.FN g with
  | some fn => match fn.body with
    | some c => fn.results.toList.isEmpty && R (C.dfr []) g [.code c] (catS args (anys (fn.ntmps - lenS args))) [] h (rcvB C R p K g)
    | none => false
  | none => false
def endB (fn : Func) (K : Out → HS → Bool) (g' : Nat) (caps : List SV) (o : Out) (h : HS) : Bool :=
  match o with
  | .fin p ts => defB C R g' caps p h (resultB C fn K ts)
  | _ => false
def dfrGoB (fn : Func) (K : Out → HS → Bool) (g : Nat) (f : SV) (ops : Array Oper) (idx : List Nat) (dst : Option Nat) (k : List It) (t : List SV) (h : HS) : Bool :=
  match f with
  | .func g' caps => C.F g' && (noInvB k && R (C.dfr (slots fn.results.toList)) g (.reg ops idx :: k) (put t dst .any) [] h (endB C R fn K g' caps))
  | _ => false
def dfrOpB (fn : Func) (K : Out → HS → Bool) (g : Nat) (o : Option Oper) (ops : Array Oper) (idx : List Nat) (k : List It) (t : List SV) (h : HS) : Bool :=
  match o with
  | some ⟨dst, .defer ⟨.value f, ⟨[]⟩, _⟩, _, _, _, none⟩ => dfrGoB C R fn K g (ev t f) ops idx dst k t h
  | _ => false
def dfrQB (fn : Func) (K : Out → HS → Bool) (g : Nat) (o : Out) (h : HS) : Bool :=
  match o with
  | .stop (.reg ops (i :: idx) :: k) t => dfrOpB C R fn K g (getO ops.toList i) ops idx k t h
  | .fin p ts => resultB C fn K ts p h
  | _ => false
def dfrB (g : Nat) (args : List SV) (h : HS) (K : Out → HS → Bool) : Bool :=
  match C.FN g with
  | some fn => match fn.body with
    | some c => R (C.dfr (slots fn.results.toList)) g [.code c] (catS args (anys (fn.ntmps - lenS args))) [] h (dfrQB C R fn K g)
    | none => false
  | none => false

def goB (il : Bool) (g : Nat) (args : List SV) (fid : Nat) (ops : Array Oper) (i : Nat) (idx : List Nat) (dst : Option Nat) (k : List It) (t : List SV) (fs : List Fr) (h : HS) (Q : Out → HS → Bool) : Bool :=
  match il with
  | true => inlB C R C.D (C.FN g) g args fid ops i idx dst k t fs h Q
  | false => dfrB C R g args h (outB (fun t' h' => R C fid (.reg ops idx :: k) t' fs h' Q) (panB C.D Q) t dst)
def allN (f : Nat → Bool) : Nat → Bool
  | 0 => true
  | n + 1 => f n && allN f n
def anyN (f : Nat → Bool) : Nat → Bool
  | 0 => false
  | n + 1 => f n || anyN f n
theorem allN_ok {f : Nat → Bool} : ∀ {n : Nat}, allN f n = true → ∀ i, i < n → f i = true
  | 0, _, i, hi => by omega
  | n + 1, h, i, hi => by
    simp only [allN, Bool.and_eq_true] at h
    by_cases e : i = n
    · subst e; exact h.1
    · exact allN_ok h.2 i (by omega)
theorem anyN_ok {f : Nat → Bool} : ∀ {n : Nat}, anyN f n = true → ∃ i, i < n ∧ f i = true
  | 0, h => by cases h
  | n + 1, h => by
    simp only [anyN, Bool.or_eq_true] at h
    rcases h with h | h
    · exact ⟨n, by omega, h⟩
    · obtain ⟨i, h1, h2⟩ := anyN_ok h; exact ⟨i, by omega, h2⟩
def execB (nf d : Bool) (r : Res) (fid : Nat) (ops : Array Oper) (i : Nat) (idx : List Nat) (dst : Option Nat) (k : List It) (t : List SV) (fs : List Fr) (h : HS) (Q : Out → HS → Bool) : Bool :=
  match r with
  | .val p v h' => d && R C fid (.reg ops idx :: k) (put t dst v) fs h' Q
  | .skip p h' => d && R C fid (.reg ops idx :: k) (put t dst .any) fs h' Q
  | .fork p v u h' => (nf || R C fid (.reg ops idx :: k) (put t dst v) fs h' Q) && R C fid (.reg ops idx :: k) (put t dst u) fs h' Q
  | .pan v => panB C.D Q t v h
  | .call g args => goB C R (C.inl g) g args fid ops i idx dst k t fs h Q
  | .callN p g args h' => d && goB C R (C.inl g) g args fid ops i idx dst k t fs h' Q
  | .pick c n p v g u h' => d && (allN (fun i => !p i || R C fid (.reg ops idx :: k) (put t dst (v i)) fs (g i) Q) n && (anyN p n || R C fid (.reg ops idx :: k) (put t dst u) fs h' Q))
  | .round nm rf rt assign body => roundB C R C.D (C.FN rf).isSome nm rf rt assign body fid ops i idx k t fs h Q
  | .bad => stopB C.D Q (.reg ops (i :: idx) :: k) t h
def wantB (b want : Bool) (o : Oper) (fid : Nat) (ops : Array Oper) (i : Nat) (idx : List Nat) (k : List It) (t : List SV) (fs : List Fr) (h : HS) (Q : Out → HS → Bool) : Bool :=
  match b, want with
  | true, true => execB C R (noF t h o) (dOp C.T t h o) (opRes C.T C.F t h o) fid ops i idx o.dst k t fs h Q
  | false, false => execB C R (noF t h o) (dOp C.T t h o) (opRes C.T C.F t h o) fid ops i idx o.dst k t fs h Q
  | _, _ => R C fid (.reg ops idx :: k) (put t o.dst (.tup [])) fs h Q
def guardB (x : SV) (d : Nat) (want : Bool) (o : Oper) (fid : Nat) (ops : Array Oper) (i : Nat) (idx : List Nat) (k : List It) (t : List SV) (fs : List Fr) (h : HS) (Q : Out → HS → Bool) : Bool :=
  match x with
  | .bool true => wantB C R true want o fid ops i idx k (upd t d (.bool true)) fs h Q
  | .bool false => wantB C R false want o fid ops i idx k (upd t d (.bool false)) fs h Q
  | .tup [] => R C fid (.reg ops idx :: k) (put t o.dst (.tup [])) fs h Q
  | _ => false
def guard1B (oj : Option Oper) (want : Bool) (o : Oper) (fid : Nat) (ops : Array Oper) (i : Nat) (idx : List Nat) (k : List It) (t : List SV) (fs : List Fr) (h : HS) (Q : Out → HS → Bool) : Bool :=
  match oj with
  | some { dst := some d, .. } => guardB C R (nth t d) d want o fid ops i idx k t fs h Q
  | _ => false
def opB (o : Option Oper) (fid : Nat) (ops : Array Oper) (i : Nat) (idx : List Nat) (k : List It) (t : List SV) (fs : List Fr) (h : HS) (Q : Out → HS → Bool) : Bool :=
  match o with
  | some ⟨dst, op, ty, pos, aft, none⟩ => execB C R (noF t h ⟨dst, op, ty, pos, aft, none⟩) (dOp C.T t h ⟨dst, op, ty, pos, aft, none⟩) (opRes C.T C.F t h ⟨dst, op, ty, pos, aft, none⟩) fid ops i idx dst k t fs h Q
  | some ⟨dst, op, ty, pos, aft, some (j, want)⟩ => guard1B C R (getO ops.toList j) want ⟨dst, op, ty, pos, aft, some (j, want)⟩ fid ops i idx k t fs h Q
  | none => false

/- ### regions whose order is drawn -/
def reS1B (pu d : Bool) (r : Res) (dst : Option Nat) (t : List SV) : Bool :=
  match r with
  | .val _ v _ => pu && (d && match dst with
    | some s => svEq 8 v (nth t s)
    | none => true)
  | _ => false
def reWB (b want : Bool) (pu d : Bool) (r : Res) (dst : Option Nat) (t : List SV) : Bool :=
  match b, want with
  | true, true => reS1B pu d r dst t
  | false, false => reS1B pu d r dst t
  | _, _ => true
def reGB (x : SV) (want : Bool) (pu d : Bool) (r : Res) (dst : Option Nat) (t : List SV) : Bool :=
  match x with
  | .bool b => reWB b want pu d r dst t
  | .tup [] => true
  | _ => false
def reOB (ops : Array Oper) (t : List SV) (h : HS) (o : Option Oper) : Bool :=
  match o with
  | some ⟨dst, op, ty, pos, aft, none⟩ => reS1B (pureO ⟨dst, op, ty, pos, aft, none⟩) (dOp C.T t h ⟨dst, op, ty, pos, aft, none⟩) (opRes C.T C.F t h ⟨dst, op, ty, pos, aft, none⟩) dst t
  | some ⟨dst, op, ty, pos, aft, some (j, want)⟩ => match getO ops.toList j with
    | some { dst := some d, .. } => reGB (nth t d) want (pureO ⟨dst, op, ty, pos, aft, some (j, want)⟩) (dOp C.T t h ⟨dst, op, ty, pos, aft, some (j, want)⟩) (opRes C.T C.F t h ⟨dst, op, ty, pos, aft, some (j, want)⟩) dst t
    | _ => false
  | none => false
def reAB (ops : Array Oper) (t : List SV) (h : HS) : List Nat → Bool
  | [] => true
  | k :: l => reOB C ops t h (getO ops.toList k) && reAB ops t h l
variable (X : List SV → SV → HS → Bool) (Q : Out → HS → Bool)
def qGoB (pu d : Bool) (r : Res) (dst : Option Nat) (S : List SV → HS → Bool) (t : List SV) (h : HS) : Bool :=
  match r with
  | .val _ v _ => pu && (d && S (put t dst v) h)
  | _ => false
def lCallB (il : Bool) (g : Nat) (args : List SV) (dst : Option Nat) (S : List SV → HS → Bool) (t : List SV) (h : HS) : Bool :=
  match il with
  | true => match C.FN g with
    | some fn => match fn.body with
      | some c => R C.off g [.code c] (catS args (anys (fn.ntmps - lenS args))) [] h (outB S X t dst)
      | none => false
    | none => false
  | false => dfrB C R g args h (outB S X t dst)
def rndB (S : List SV → HS → Bool) (t : List SV) (dst : Option Nat) (o : Out) (h : HS) : Bool :=
  match o with
  | .rnd v => S (put t dst v) h
  | _ => false
def lGoB (d : Bool) (r : Res) (dst : Option Nat) (S : List SV → HS → Bool) (t : List SV) (h : HS) : Bool :=
  match r with
  | .val p v h' => d && S (put t dst v) h'
  | .skip p h' => d && S (put t dst .any) h'
  | .call g args => lCallB C R X (C.inl g) g args dst S t h
  | .callN p g args h' => d && lCallB C R X (C.inl g) g args dst S t h'
  | .round nm rf rt assign body => (C.FN rf).isSome && R C.rnd rf [.code assign, .beginR, .code body, .endR nm] rt [] h (rndB S t dst)
  | _ => false
def goPB (quiet : Bool) (o : Oper) (S : List SV → HS → Bool) (t : List SV) (h : HS) : Bool :=
  match quiet with
  | true => qGoB (pureO o) (dOp C.T t h o) (opRes C.T C.F t h o) o.dst S t h
  | false => lGoB C R X (dOp C.T t h o) (opRes C.T C.F t h o) o.dst S t h
def gateWB (b want : Bool) (quiet : Bool) (o : Oper) (S : List SV → HS → Bool) (t : List SV) (h : HS) : Bool :=
  match b, want with
  | true, true => goPB C R X quiet o S t h
  | false, false => goPB C R X quiet o S t h
  | _, _ => S (put t o.dst (.tup [])) h
def gateGB (x : SV) (d : Nat) (want : Bool) (quiet : Bool) (o : Oper) (S : List SV → HS → Bool) (t : List SV) (h : HS) : Bool :=
  match x with
  | .bool true => gateWB C R X true want quiet o S (upd t d (.bool true)) h
  | .bool false => gateWB C R X false want quiet o S (upd t d (.bool false)) h
  | .tup [] => S (put t o.dst (.tup [])) h
  | _ => false
def gateB (ops : Array Oper) (quiet : Bool) (o : Option Oper) (S : List SV → HS → Bool) (t : List SV) (h : HS) : Bool :=
  match o with
  | some ⟨dst, op, ty, pos, aft, none⟩ => goPB C R X quiet ⟨dst, op, ty, pos, aft, none⟩ S t h
  | some ⟨dst, op, ty, pos, aft, some (j, want)⟩ => match getO ops.toList j with
    | some { dst := some d, .. } => gateGB C R X (nth t d) d want quiet ⟨dst, op, ty, pos, aft, some (j, want)⟩ S t h
    | _ => false
  | none => false
def thenB (ops : Array Oper) (re : List Nat) (S : List SV → HS → Bool) (t : List SV) (h : HS) : Bool := reAB C ops t h re && S t h
def planB (fid : Nat) (ops : Array Oper) (k : List It) (fs : List Fr) : Plan → List SV → HS → Bool
  | .done, t, h => R C fid k t fs h Q
  | .quiet i p, t, h => gateB C R X ops true (getO ops.toList i) (planB fid ops k fs p) t h
  | .loud i re p, t, h => gateB C R X ops false (getO ops.toList i) (thenB C ops re (planB fid ops k fs p)) t h
  | .both p q, t, h => planB fid ops k fs p t h && planB fid ops k fs q t h
def drawB (p : Option Plan) (fid : Nat) (ops : Array Oper) (k : List It) (t : List SV) (fs : List Fr) (h : HS) : Bool :=
  match p with
  | some p => planOk ops p && (keepOk ops C.D && planB C R (panB C.D Q) Q fid ops k fs p t h)
  | none => false
end

def codeB (R : RnB) (C : Ctx) (fid : Nat) (c : Code) (k : List It) (t : List SV) (fs : List Fr) (h : HS) (Q : Out → HS → Bool) : Bool :=
  match c with
  | .skip => R C fid k t fs h Q
  | .label _ => R C fid k t fs h Q
  | .seq a b => R C fid (.code a :: .code b :: k) t fs h Q
  | .cond c a b => condB C R (ev t c) fid a b k t fs h Q
  | .block id c => R C fid (.code c :: .blk id :: k) t fs h Q
  | .loop body => R C fid (.code body :: .aga body :: k) t fs h Q
  | .scope body => R C fid (.code body :: .scp body :: k) t fs h Q
  | .exit id => exitB C R id k (exitI id k) fid t fs h Q
  | .rangeFunc f params assign body => rngB C R (ev t f) params assign body fid k t fs h Q
  | .ret => retB C R (rnd k) .ret fs h Q (leaveB C R C.D fid t fs h Q (C.FN fid))
  | .region _ ops false => R C fid (.reg ops (upto ops.toList 0) :: k) t fs h Q
  | .region id ops true => drawB C R Q (C.plan fid id) fid ops k t fs h
  | _ => false
def stepB (R : RnB) : RnB := fun C fid k t fs h Q =>
  match k with
  | [] => leaveB C R C.D fid t fs h Q (C.FN fid)
  | .code c :: k => codeB R C fid c k t fs h Q
  | .blk _ :: k => R C fid k t fs h Q
  | .aga body :: k => R C fid (.code body :: .aga body :: k) t fs h Q
  | .scp _ :: k => R C fid k t fs h Q
  | .reg ops [] :: k => R C fid k t fs h Q
  | .reg ops (i :: idx) :: k => opB C R (getO ops.toList i) fid ops i idx k t fs h Q
  | .endRng nm :: k => endRngB C R (getB h.blks nm) nm fid k t fs h Q
  | .beginR :: k => beginRB C R (rnd k) fid k t fs h Q
  | .endR nm :: _ => endRB C R (getB h.blks nm) nm none fs h Q
  | _ => false
def runB : Nat → RnB := Nat.rec (fun _ _ _ _ _ _ _ => false) (fun _ R => stepB R)
theorem runB_succ (n : Nat) : runB (n + 1) = stepB (runB n) := rfl
end Go.Eng
end
