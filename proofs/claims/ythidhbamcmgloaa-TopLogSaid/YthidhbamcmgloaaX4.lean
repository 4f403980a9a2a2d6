/-
  A part of the symbolic machine, of its soundness, and of what functions compute. No condition.
-/
import Derived.Recover
import Derived.Attr
import Derived.OpenShut
import Derived.Carry
import Derived.ChangeArms
import Derived.WideShapes
import Derived.WideWitness
import Derived.ProofKit
import Derived.SizedLaws
import Derived.Test.YthidhbamcmgloaaX3
set_option linter.unusedSimpArgs false
set_option linter.unusedVariables false
/- Functions that defer one call, and the deferred call that recovers. -/
section
namespace Go.Eng
open Go.RowKit
set_option linter.unusedVariables false

section
variable {P : Program} {b : Frame} {a : Act} {k : List Item} {cs : List Frame} {w w' : World} {ops : Array Oper} {i : Nat} {rest : List Nat} {o : Oper}
theorem op_defer (hro : b.roundOf = none) (ho : ops[i]? = some o) (hw : Region.wanted o (yielded ops a.tmps) = true) {d : Deferred} (hr : (execOp a.eval o).run P w = .ok (.defer d) w') :
    step P (lone (b.atR a (.inRegion ops (i :: rest) :: k)) cs w) = .next (lone (b.atR ({ a with defers := d :: a.defers }.put o.dst undef) (.inRegion ops rest :: k)) cs w') := by
  have hg := stepGR_op (P := P) (b := b) (k := k) (cs := cs) (w := w) (rest := rest) ho hw
  rw [hro, Oper.semAt_none] at hg
  have : ({ b.atR a (.inRegion ops (i :: rest) :: k) with defers := d :: a.defers } : Frame).finish undef =
      b.atR ({ a with defers := d :: a.defers }.put o.dst undef) (.inRegion ops rest :: k) := by
    have := Frame.finish_atR b { a with defers := d :: a.defers } ops i rest k undef
    rw [ho] at this; exact this
  refine step_lone_go ?_
  rw [hg]; simp only [stepG.apply, Sem.runT_eq, hr, GStep.bare_after]
  exact congrArg (fun fr => GStep.go { frame := fr, callers := cs, status := .running, dying := none } w') this
theorem op_recover (hro : b.roundOf = none) (hk : b.kind = .deferred) (ho : ops[i]? = some o) (hw : Region.wanted o (yielded ops a.tmps) = true) (hr : (execOp a.eval o).run P w = .ok .recover w') {v : Value} {cs' : List Frame} (hrec : recoverD cs = some (v, cs')) :
    step P (lone (b.atR a (.inRegion ops (i :: rest) :: k)) cs w) = .next (lone (b.atR (a.put o.dst v) (.inRegion ops rest :: k)) cs' w') := by
  have hg := stepGR_op (P := P) (b := b) (k := k) (cs := cs) (w := w) (rest := rest) ho hw
  rw [hro, Oper.semAt_none] at hg
  have hfin : (b.atR a (.inRegion ops (i :: rest) :: k)).finish v = b.atR (a.put o.dst v) (.inRegion ops rest :: k) := by rw [Frame.finish_atR, ho]; rfl
  have hk' : (b.atR a (.inRegion ops (i :: rest) :: k)).kind = .deferred := hk
  have htr := tryRecover_deferred hk' cs
  refine step_lone_go ?_
  rw [hg, ← hfin]
  simp only [Frame.atR, hro] at htr ⊢
  simp [stepG.apply, hr, htr, hrec]
theorem op_recover_none (hro : b.roundOf = none) (hk : b.kind = .deferred) (ho : ops[i]? = some o) (hw : Region.wanted o (yielded ops a.tmps) = true) (hr : (execOp a.eval o).run P w = .ok .recover w') (hrec : recoverD cs = none) :
    step P (lone (b.atR a (.inRegion ops (i :: rest) :: k)) cs w) = .next (lone (b.atR (a.put o.dst .nilIface) (.inRegion ops rest :: k)) cs w') := by
  have hg := stepGR_op (P := P) (b := b) (k := k) (cs := cs) (w := w) (rest := rest) ho hw
  rw [hro, Oper.semAt_none] at hg
  have hfin : ∀ v, (b.atR a (.inRegion ops (i :: rest) :: k)).finish v = b.atR (a.put o.dst v) (.inRegion ops rest :: k) := by intro v; rw [Frame.finish_atR, ho]; rfl
  have hk' : (b.atR a (.inRegion ops (i :: rest) :: k)).kind = .deferred := hk
  have htr := tryRecover_deferred hk' cs
  refine step_lone_go ?_
  rw [hg, ← hfin]
  simp only [Frame.atR, hro] at htr ⊢
  simp [stepG.apply, hr, htr, hrec]
end

/-- No loop lies about, and this is no round. -/
def noInv : List It → Prop
  | [] => True
  | .inv _ _ _ _ _ :: _ => False
  | .endR _ :: _ => False
  | .code _ :: k => noInv k
  | .blk _ :: k => noInv k
  | .reg _ _ :: k => noInv k
  | .inRng _ :: k => noInv k
  | .endRng _ :: k => noInv k
  | .beginR :: k => noInv k
  | .aga _ :: k => noInv k
  | .scp _ :: k => noInv k
theorem noInv_ok {C : Ctx} {cs : List Frame} {B : Bt} {E : Env} {w : World} {s u : Nat} {fid : Nat} {frs : List Frame} : ∀ {k : List It}, noInv k → InvK C cs B E w s u fid frs k ∧ rnd k = none
  | [], _ => by simp only [InvK, rnd]; exact ⟨trivial, trivial⟩
  | .inv _ _ _ _ _ :: _, h => by simp only [noInv] at h
  | .endR _ :: _, h => by simp only [noInv] at h
  | .code _ :: k, h => by simp only [noInv] at h; simp only [InvK, rnd]; exact noInv_ok h
  | .blk _ :: k, h => by simp only [noInv] at h; simp only [InvK, rnd]; exact noInv_ok h
  | .reg _ _ :: k, h => by simp only [noInv] at h; simp only [InvK, rnd]; exact noInv_ok h
  | .inRng _ :: k, h => by simp only [noInv] at h; simp only [InvK, rnd]; exact noInv_ok h
  | .endRng _ :: k, h => by simp only [noInv] at h; simp only [InvK, rnd]; exact noInv_ok h
  | .beginR :: k, h => by simp only [noInv] at h; simp only [InvK, rnd]; exact noInv_ok h
  | .aga _ :: k, h => by simp only [noInv] at h; simp only [InvK, rnd]; exact noInv_ok h
  | .scp _ :: k, h => by simp only [noInv] at h; simp only [InvK, rnd]; exact noInv_ok h

def slots : List ResultVar → List Nat
  | [] => []
  | .tmp i :: l => i :: slots l
  | .cell a _ :: l => a :: slots l
def resK (T : Nat → Option TI) (h : HS) : List ResultVar → List SV → Option (Prop × List SV)
  | [], _ => some (True, [])
  | .tmp _ :: l, x :: ts => match resK T h l ts with
    | some (p, vs) => some (p, x :: vs)
    | none => none
  | .cell _ ty :: l, x :: ts => match T ty with
    | some ti => match rLoad ti h x, resK T h l ts with
      | .val q v _, some (p, vs) => some (q ∧ p, v :: vs)
      | _, _ => none
    | none => none
  | _ :: _, [] => none
theorem resK_eq (T : Nat → Option TI) (h : HS) (t : List SV) : ∀ (l : List ResultVar), resK T h l (keepN t (slots l)) = resL T t h l
  | [] => rfl
  | .tmp i :: l => by simp only [slots, keepN, resK, resL, resK_eq T h t l]; rfl
  | .cell a ty :: l => by simp only [slots, keepN, resK, resL, resK_eq T h t l]; rfl

/-- A deferred call, the frame beneath it returning or in panic p; K: what the frame is in after it, and memory. -/
def DefS (P : Program) (g : Nat) (args : List SV) (p : Option SV) (h : HS) (K : Option SV → HS → Prop) : Prop :=
  ∀ (E : Env) (w : World) (vals : Array Value) (md : FrameMode), RelH E h w → DenA E w args vals → ModeOk E w p md →
    CallsD P g vals md w fun e u' w' => ∃ p' h' E' val, e = .returned val ∧ K p' h' ∧ RelH E' h' w' ∧ Ext E w E' w' ∧ ModeOk E' w' p' (settle u')

section
variable (C : Ctx) (fn : Func) (K : Out → HS → Prop)
def resultQ (ts : List SV) (p : Option SV) (h : HS) : Prop :=
  match p with
  | none => match resK C.T h fn.results.toList ts with
    | some (q, vs) => q ∧ K (.ret (oneR vs)) h
    | none => False
  | some v => K (.pan v) h
def endQ (g' : Nat) (caps : List SV) (o : Out) (h : HS) : Prop :=
  match o with
  | .fin p ts => DefS C.P g' caps p h (resultQ C fn K ts)
  | _ => False
def dfrGo (g n : Nat) (f : SV) (ops : Array Oper) (idx : List Nat) (dst : Option Nat) (k : List It) (t : List SV) (h : HS) : Prop :=
  match f with
  | .func g' caps => C.F g' = true ∧ noInv k ∧ run C n g (.reg ops idx :: k) (put t dst .any) [] h (endQ C fn K g' caps)
  | _ => False
def dfrOp (g n : Nat) (o : Option Oper) (ops : Array Oper) (idx : List Nat) (k : List It) (t : List SV) (h : HS) : Prop :=
  match o with
  | some ⟨dst, .defer ⟨.value f, ⟨[]⟩, _⟩, _, _, _, none⟩ => dfrGo C fn K g n (ev t f) ops idx dst k t h
  | _ => False
def dfrQ (g n : Nat) (o : Out) (h : HS) : Prop :=
  match o with
  | .stop (.reg ops (i :: idx) :: k) t => dfrOp C fn K g n (getO ops.toList i) ops idx k t h
  | .fin p ts => resultQ C fn K ts p h
  | _ => False
end

theorem defer_chain {P : Program} {fr0 : Frame} {cs : List Frame} {w2 : World} {g' : Nat} {vs : Array Value} {ml : List Nat} {md : FrameMode} {R : Ending → FrameMode → World → Prop} (hu : fr0.mode = md) (hmd : md ≠ .run)
    (hds : fr0.defers = { target := .fn (.func g') vs, args := #[] } :: marks ml) (hi : (invoke (.fn (.func g') vs) #[]).run P w2 = .ok (.enter g' vs) w2) (hR : ∀ e u w, R e u w → ∃ val, e = .returned val) (hcd : CallsD P g' vs md w2 R) :
    ∃ val u' w3, R (.returned val) u' w3 ∧ Steps P (lone fr0 cs w2) (lone { fr0 with defers := marks ml, mode := settle u' } cs w3) := by
  have h1 := step_defer (P := P) (fr := fr0) (cs := cs) (w := w2) (d := { target := .fn (.func g') vs, args := #[] }) (ds := marks ml) (f := g') (args := vs) (by rw [hu]; exact hmd) hds rfl hi
  obtain ⟨e, u', w3, frX, hRe, hc, hkX, hgo⟩ := hcd { fr0 with defers := marks ml } cs hu
  obtain ⟨val, rfl⟩ := hR _ _ _ hRe
  refine ⟨val, u', w3, hRe, ?_⟩
  have h3 := step_going_returned (c := { fr0 with defers := marks ml, mode := u' }) (cs := cs) hkX hgo
  have hc' : Steps P (lone (Frame.enter P g' vs .deferred) ({ fr0 with defers := marks ml } :: cs) w2) (lone frX ({ fr0 with defers := marks ml, mode := u' } :: cs) w3) := hc
  exact (Steps.one h1).trans (hc'.trans (.one h3))

theorem calls_of_defer {C : Ctx} (hC : CtxOk C) {g : Nat} {fn : Func} {c : Code} (hf : C.FN g = some fn) (hb : fn.body = some c) (hD : C.D = some (slots fn.results.toList)) {args : List SV} {h : HS} {K : Out → HS → Prop} (n m : Nat)
    (hrun : run C n g [.code c] (catS args (anys (fn.ntmps - lenS args))) [] h (dfrQ C fn K g m)) : CallsS C.P g args h K := by
  intro E w vals hr hd cs
  have hP := hC.FN g fn hf
  -- what the end is worth
  let Fin : Ending → Machine → Prop := fun e m' => ∃ fr w', m' = lone fr cs w' ∧ Rel0 E w K e w' ∧ fr.fn = g ∧ fr.leaving C.P w' e
  let B0 : Bt := { ds := [], kd := .normal, Fin }
  have second : ∀ (g' : Nat) (caps : List SV) (vs : Array Value) (E1 : Env) (w1 : World) (s u : Nat) (l : List Nat), Ext E w E1 w1 → w.heap.size ≤ s → MarkOk E1 w1 s u l → C.F g' = true → DenA E1 w1 caps vs →
      BtOk C cs g { ds := { target := .fn (.func g') vs, args := #[] } :: marks l, kd := .normal, Fin } E1 w1 (endQ C fn K g' caps) := by
    intro g' caps vs E1 w1 s u ml hx1 hs hml hF hcaps
    refine ⟨fun h0 => (by rw [hD] at h0; cases h0), ?_, fun l hl k t h E w tmps s ds hq => (by simp only [endQ] at hq), fun h0 => (by rw [hD] at h0; cases h0)⟩
    intro l hl p t h2 E2 w2 tmps todo ro md hq hd2 hr2 hx2 hmd
    simp only [endQ] at hq
    have hl2 : l = slots fn.results.toList := by rw [hD] at hl; cases hl; rfl
    have hcd := hq E2 w2 vs md hr2 (hcaps.ext hx2) hmd
    have hmrun : md ≠ .run := by
      cases p with
      | none => simp only [ModeOk] at hmd; subst hmd; intro h; cases h
      | some v => obtain ⟨val, rfl, _⟩ := hmd; intro h; cases h
    let B1 : Bt := { ds := { target := .fn (.func g') vs, args := #[] } :: marks ml, kd := .normal, Fin }
    let fr0 : Frame := { fra B1 B1.ds ro g tmps todo with mode := md }
    obtain ⟨val, u', w3, ⟨p', h3, E3, val', hval, hk, hr3, hx3, hmd3⟩, hsteps⟩ := defer_chain (P := C.P) (fr0 := fr0) (cs := cs) (w2 := w2) (ml := ml) (md := md) rfl hmrun rfl (by simpa [invoke] using hC.F g' hF vs w2) (fun e u w hh => by obtain ⟨_, _, _, val, rfl, _⟩ := hh; exact ⟨val, rfl⟩) hcd
    refine Goal.of_steps hsteps ?_
    have hx13 := hx2.trans hx3
    have hml3 : MarkOk E3 w3 s u ml := ⟨hml.1, fun D hD' => by
      obtain ⟨a, b, c, d, e⟩ := hml.2 D hD'
      obtain ⟨k1, k2⟩ := hx13.keep D c d
      exact ⟨a, b, Nat.lt_of_lt_of_le c hx13.size, k1, k2.trans e⟩⟩
    have hsrun : settle u' ≠ .run := by
      cases p' with
      | none => simp only [ModeOk] at hmd3; rw [hmd3]; intro h; cases h
      | some v => obtain ⟨val, hh, _⟩ := hmd3; rw [hh]; intro h; cases h
    obtain ⟨w4, g1, g2⟩ := take_steps (P := C.P) (cs := cs) (D0 := []) ml { fr0 with defers := marks ml, mode := settle u' } w3 hsrun (by simp) hml3
    refine Goal.of_steps g1 ?_
    have hxE : Ext E w E3 w4 := g2.ext ((hx1.trans hx2).trans hx3) hs
    cases p' with
    | none =>
      simp only [ModeOk] at hmd3
      simp only [resultQ] at hk
      rw [hl2, resK_eq] at hk
      split at hk
      · rename_i q vs' hres
        obtain ⟨v, h1, h2⟩ := results_ok (P := C.P) hC.T (g2.denA (hd2.ext hx3)) (g2.rel hr3) fn hres hk.1
        exact ⟨.returned v, _, ⟨_, w4, rfl, ⟨.ret (oneR vs'), h3, E3, hk.2, g2.rel hr3, hxE, h2⟩, rfl, hmd3, rfl, rfl, fn, hP, h1⟩, Steps.refl _ _⟩
      · exact hk.elim
    | some v =>
      obtain ⟨val', hset, hv⟩ := hmd3
      exact ⟨.panicked [{ v := val', recovered := false }], _, ⟨_, w4, rfl, ⟨.pan v, h3, E3, hk, g2.rel hr3, hxE, val', rfl, g2.den hv⟩, rfl, hset, rfl, fn, hP⟩, Steps.refl _ _⟩
  have first : BtOk C cs g B0 E w (dfrQ C fn K g m) := by
    refine ⟨fun h0 => (by rw [hD] at h0; cases h0), fun l hl p t h2 E2 w2 tmps todo ro md hq hd2 hr2 hx2 hmd => ?_, ?_, fun h0 => (by rw [hD] at h0; cases h0)⟩
    · simp only [dfrQ] at hq
      have hl2 : l = slots fn.results.toList := by rw [hD] at hl; cases hl; rfl
      cases p with
      | none =>
        simp only [ModeOk] at hmd
        simp only [resultQ] at hq
        rw [hl2, resK_eq] at hq
        split at hq
        · rename_i q vs' hres
          obtain ⟨v, h1, h3⟩ := results_ok (P := C.P) hC.T hd2 hr2 fn hres hq.1
          exact ⟨.returned v, _, ⟨_, w2, rfl, ⟨.ret (oneR vs'), h2, E2, hq.2, hr2, hx2, h3⟩, rfl, hmd, rfl, rfl, fn, hP, h1⟩, Steps.refl _ _⟩
        · exact hq.elim
      | some v =>
        obtain ⟨val', hset, hv⟩ := hmd
        exact ⟨.panicked [{ v := val', recovered := false }], _, ⟨_, w2, rfl, ⟨.pan v, h2, E2, hq, hr2, hx2, val', rfl, hv⟩, rfl, hset, rfl, fn, hP⟩, Steps.refl _ _⟩
    intro l hl k t h1 E1 w1 tmps s ds hq hd1 hr1 hx1 hkb hds hws
    unfold dfrQ at hq
    split at hq
    · rename_i ops i idx k t heq
      cases heq
      unfold dfrOp at hq
      split at hq
      · rename_i dst f tys ty pos aft ho
        rw [getO_eq, Array.getElem?_toList] at ho
        unfold dfrGo at hq
        split at hq
        · rename_i g' caps hfv
          obtain ⟨hF, hinv, hrun2⟩ := hq
          have hrn : rnd k = none := (noInv_ok (C := C) (cs := cs) (B := B0) (E := E1) (w := w1) (s := 0) (u := 0) (fid := 0) (frs := []) hinv).2
          have kf := ev_den (a := ⟨tmps, ds⟩) hd1 f
          rw [hfv] at kf
          generalize hv : (⟨tmps, ds⟩ : Act).eval f = vf at kf
          cases kf
          rename_i vs hvs hcd
          obtain ⟨ml, e1, e2⟩ := hds
          have e1' : ds = marks ml := by rw [e1]; simp [B0]
          simp only [kb] at hkb
          have hro : rnf E1.rho (.reg ops (i :: idx) :: k) = none := by simp [rnf, rnd, hrn]
          rw [hro]
          have hstep := op_defer (P := C.P) (b := base B0 none g) (a := ⟨tmps, ds⟩) (k := items E1.rho k) (cs := cs) (w := w1) (rest := idx) (o := ⟨dst, .defer ⟨.value f, ⟨[]⟩, tys⟩, ty, pos, aft, none⟩) rfl ho (by simp [Region.wanted])
            (d := { target := .fn (.func g') vs, args := #[] }) (w' := w1) (by simp [execOp, resolve, hv, Deferred.ofValue])
          let B1 : Bt := { ds := { target := .fn (.func g') vs, args := #[] } :: marks ml, kd := .normal, Fin }
          refine Goal.step (m' := lone (fra B1 B1.ds (rnf E1.rho (.reg ops idx :: k)) g ((⟨tmps, []⟩ : Act).put dst undef).tmps (items E1.rho (.reg ops idx :: k))) cs w1) ?_ ?_
          · refine hstep.trans ?_
            have e : ∀ (ds : List Deferred), ((⟨tmps, ds⟩ : Act).put dst undef) = ⟨((⟨tmps, []⟩ : Act).put dst undef).tmps, ds⟩ := fun ds => by cases dst <;> rfl
            simp only
            rw [e, show rnf E1.rho (.reg ops idx :: k) = none from by simp [rnf, rnd, hrn], e1']
            rfl
          · have hsnd := run_sound m C hC cs g B1 E1 w1 _ (second g' caps vs E1 w1 s w1.heap.size ml hx1 hws e2 hF ⟨hvs, hcd⟩)
            exact hsnd g _ _ [] h1 hrun2 (fun _ => rfl) E1 w1 ((⟨tmps, []⟩ : Act).put dst undef).tmps [] w1.heap.size B1.ds (put_den hd1 _ (.any _)) hr1 (by simp only [StkOk]; exact Nat.le_refl _) (Nat.le_refl _) ⟨[], by simp [marks], by simp, fun D hD => by cases hD⟩ (by simp only [kb]; exact hkb) (by simp only [InvK]; exact (noInv_ok hinv).1) (Ext.refl E1 w1) rfl ⟨fn, hP⟩
        · exact hq.elim
      · exact hq.elim
    · rename_i heq; cases heq
    · exact hq.elim
  have hs := run_sound n C hC cs g B0 E w _ first g _ _ [] h hrun (fun _ => rfl) E w (vals ++ Array.replicate (fn.ntmps - vals.size) undef) [] w.heap.size [] (fill_den hd _) hr (by simp only [StkOk]; exact Nat.le_refl _) (Nat.le_refl _) (no_marks rfl _ _) (by simp only [kb]) (by simp only [InvK]) (Ext.refl E w) rfl ⟨fn, hP⟩
  obtain ⟨e, m', ⟨fr, w', rfl, ⟨o, h', E', q1, q2, q3, q4⟩, hfn, hl⟩, hc⟩ := hs
  rw [enter_fra (B := B0) rfl hP hb]
  refine ⟨e, w', fr, ⟨o, h', E', q1, q2, q3, ?_⟩, hc, hfn, hl⟩
  cases o <;> cases e <;> exact q4

/- ### the deferred function -/
def rcvEnd (K : Option SV → HS → Prop) (o : Out) (h : HS) : Prop :=
  match o with
  | .fin none _ => K none h
  | _ => False
def gotS (p : Option SV) : SV :=
  match p with
  | none => .nili
  | some v => v
def rcvOp (C : Ctx) (p : Option SV) (K : Option SV → HS → Prop) (g n : Nat) (o : Option Oper) (ops : Array Oper) (idx : List Nat) (k : List It) (t : List SV) (h : HS) : Prop :=
  match o with
  | some ⟨dst, .call ⟨.builtin .recover, ⟨[]⟩, _⟩, _, _, _, none⟩ => noInv k ∧ run C n g (.reg ops idx :: k) (put t dst (gotS p)) [] h (rcvEnd K)
  | _ => False
def rcvQ (C : Ctx) (p : Option SV) (K : Option SV → HS → Prop) (g n : Nat) (o : Out) (h : HS) : Prop :=
  match o with
  | .stop (.reg ops (i :: idx) :: k) t => rcvOp C p K g n (getO ops.toList i) ops idx k t h
  | _ => False

theorem defS_of_run {C : Ctx} (hC : CtxOk C) {g : Nat} {fn : Func} {c : Code} (hf : C.FN g = some fn) (hb : fn.body = some c) (hres : fn.results = #[]) (hD : C.D = some []) {args : List SV} {h : HS} {p : Option SV} {K : Option SV → HS → Prop} (n m : Nat)
    (hrun : run C n g [.code c] (catS args (anys (fn.ntmps - lenS args))) [] h (rcvQ C p K g m)) : DefS C.P g args p h K := by
  intro E w vals md hr hd hmd c0 cs hu
  have hP := hC.FN g fn hf
  let Fin : Ending → Machine → Prop := fun e m' => ∃ fr u' w', m' = lone fr ({ c0 with mode := u' } :: cs) w' ∧ (∃ p' h' E' val, e = .returned val ∧ K p' h' ∧ RelH E' h' w' ∧ Ext E w E' w' ∧ ModeOk E' w' p' (settle u')) ∧ fr.kind = .deferred ∧ fr.going C.P w' e
  let B : Bt := { ds := [], kd := .deferred, Fin }
  -- after the recovery: the frame beneath returns
  have second : ∀ (u' : FrameMode), settle u' = .returning → BtOk C ({ c0 with mode := u' } :: cs) g B E w (rcvEnd K) := by
    intro u' hset
    refine ⟨fun h0 => (by rw [hD] at h0; cases h0), ?_, fun l hl k t h E w tmps s ds hq => (by simp only [rcvEnd] at hq), fun h0 => (by rw [hD] at h0; cases h0)⟩
    intro l hl p2 t h2 E2 w2 tmps todo ro md2 hq hd2 hr2 hx2 hmd2
    cases p2 with
    | some v => simp only [rcvEnd] at hq
    | none =>
      simp only [rcvEnd] at hq
      simp only [ModeOk] at hmd2
      subst hmd2
      refine ⟨.returned (.tuple #[]), _, ⟨{ fra B B.ds ro g tmps todo with mode := .returning }, u', w2, rfl, ⟨none, h2, E2, .tuple #[], rfl, hq, hr2, hx2, hset⟩, rfl, rfl, rfl, fn, hP, ?_⟩, Steps.refl _ _⟩
      simp [results, hres]
  have first : BtOk C (c0 :: cs) g B E w (rcvQ C p K g m) := by
    refine ⟨fun h0 => (by rw [hD] at h0; cases h0), fun l hl p t h E w tmps todo ro md hq => (by simp only [rcvQ] at hq), ?_, fun h0 => (by rw [hD] at h0; cases h0)⟩
    intro l hl k t h1 E1 w1 tmps s ds hq hd1 hr1 hx1 hkb hds hws
    unfold rcvQ at hq
    split at hq
    · rename_i ops i idx k t heq
      cases heq
      unfold rcvOp at hq
      split at hq
      · rename_i dst tys ty pos aft ho
        rw [getO_eq, Array.getElem?_toList] at ho
        obtain ⟨hinv, hrun2⟩ := hq
        have hrn : rnd k = none := (noInv_ok (C := C) (cs := cs) (B := B) (E := E1) (w := w1) (s := 0) (u := 0) (fid := 0) (frs := []) hinv).2
        simp only [kb] at hkb
        have hro : rnf E1.rho (.reg ops (i :: idx) :: k) = none := by simp [rnf, rnd, hrn]
        rw [hro]
        have hex : (execOp (⟨tmps, ds⟩ : Act).eval ⟨dst, .call ⟨.builtin .recover, ⟨[]⟩, tys⟩, ty, pos, aft, none⟩).run C.P w1 = .ok .recover w1 := by
          simp [execOp, resolve, invoke, builtin]
        have e : ∀ v (k' : List Item), (base B none g).atR ((⟨tmps, ds⟩ : Act).put dst v) k' = fra B ds none g ((⟨tmps, []⟩ : Act).put dst v).tmps k' := fun v k' => by cases dst <;> rfl
        have hds' : DsOk E1 w1 B (min s w1.heap.size) w1.heap.size ds := by
          obtain ⟨ml, a1, a2, a3⟩ := hds
          exact ⟨ml, a1, a2, fun D hD => by obtain ⟨b1, b2⟩ := a3 D hD; exact ⟨by omega, b2⟩⟩
        have hsz := hx1.size
        have go : ∀ (u' : FrameMode) (v : Value), settle u' = .returning → Den E1 w1 (gotS p) v → Goal C B (lone (fra B ds none g ((⟨tmps, []⟩ : Act).put dst v).tmps (items E1.rho (.reg ops idx :: k))) ({ c0 with mode := u' } :: cs) w1) := by
          intro u' v hset hv
          have hsnd := run_sound m C hC ({ c0 with mode := u' } :: cs) g B E w _ (second u' hset)
          have hro2 : rnf E1.rho (.reg ops idx :: k) = none := by simp [rnf, rnd, hrn]
          rw [← hro2]
          exact hsnd g _ _ [] h1 hrun2 (fun _ => rfl) E1 w1 _ [] (min s w1.heap.size) ds (put_den hd1 _ hv) hr1 (by simp only [StkOk]; omega) (by omega) hds' (by simp only [kb]; exact hkb) (by simp only [InvK]; exact (noInv_ok hinv).1) hx1 rfl ⟨fn, hP⟩
        cases p with
        | none =>
          simp only [ModeOk] at hmd
          have hrec : recoverD (c0 :: cs) = none := by simp [recoverD, hu, hmd]
          refine Goal.step (op_recover_none (P := C.P) (b := base B none g) (a := ⟨tmps, ds⟩) (k := items E1.rho k) (cs := c0 :: cs) (w := w1) (rest := idx) rfl rfl ho (by simp [Region.wanted]) hex hrec) ?_
          rw [e]
          have := go md .nilIface (by rw [hmd]; rfl) .nili
          have hc : ({ c0 with mode := md } : Frame) = c0 := by subst hu; rfl
          rw [hc] at this
          exact this
        | some v =>
          obtain ⟨val, hm, hv⟩ := hmd
          have hrec : recoverD (c0 :: cs) = some (val, { c0 with mode := .panicking [{ v := val, recovered := true }] } :: cs) := by simp [recoverD, hu, hm]
          refine Goal.step (op_recover (P := C.P) (b := base B none g) (a := ⟨tmps, ds⟩) (k := items E1.rho k) (cs := c0 :: cs) (w := w1) (rest := idx) rfl rfl ho (by simp [Region.wanted]) hex hrec) ?_
          rw [e]
          exact go _ val (by simp [settle]) (hv.ext hx1)
      · exact hq.elim
    · exact hq.elim
  have hs := run_sound n C hC (c0 :: cs) g B E w _ first g _ _ [] h hrun (fun _ => rfl) E w (vals ++ Array.replicate (fn.ntmps - vals.size) undef) [] w.heap.size [] (fill_den hd _) hr (by simp only [StkOk]; exact Nat.le_refl _) (Nat.le_refl _) (no_marks rfl _ _) (by simp only [kb]) (by simp only [InvK]) (Ext.refl E w) rfl ⟨fn, hP⟩
  obtain ⟨e, m', ⟨fr, u', w', rfl, h1, h2, h3⟩, hc⟩ := hs
  have henter : Frame.enter C.P g vals .deferred = fra B [] none g (vals ++ Array.replicate (fn.ntmps - vals.size) undef) [.code c] := by
    simp [Frame.enter, fra, hP, hb, B]
  rw [henter]
  exact ⟨e, u', w', fr, h1, hc, h2, h3⟩
theorem defS_mono {P : Program} {g : Nat} {args : List SV} {p : Option SV} {h : HS} {K K' : Option SV → HS → Prop} (hd : DefS P g args p h K) (hk : ∀ p' h', K p' h' → K' p' h') : DefS P g args p h K' := by
  intro E w vals md hr hda hmd c0 cs hu
  obtain ⟨e, u', w', fr, ⟨p', h', E', val, k1, k2, k3⟩, k4⟩ := hd E w vals md hr hda hmd c0 cs hu
  exact ⟨e, u', w', fr, ⟨p', h', E', val, k1, hk _ _ k2, k3⟩, k4⟩
/-- A contract that says less of memory. -/
theorem calls_trim {P : Program} {g : Nat} {args : List SV} {h : HS} {K K' : Out → HS → Prop} (hc : CallsS P g args h K)
    (ht : ∀ o h', K o h' → ∃ x y h'', (o = .ret x ∧ K' (.ret y) h'') ∧ SubS [x] h' ([y], h'') ∧ (lenB h.blks ≤ lenB h''.blks ∧ lenB h''.blks ≤ lenB h'.blks) ∧ (lenV h.vecs ≤ lenV h''.vecs ∧ lenV h''.vecs ≤ lenV h'.vecs)) : CallsS P g args h K' := by
  intro E w vals hr hd
  refine (hc E w vals hr hd).mono ?_
  rintro e w' ⟨o, h', E', hk, hr', hx, hout⟩
  obtain ⟨x, y, h'', ⟨rfl, hk'⟩, hsub, ⟨hB, hB2⟩, ⟨hV, hV2⟩⟩ := ht o h' hk
  cases e with
  | panicked _ => exact hout.elim
  | outgrown => exact hout.elim
  | returned val =>
    have hd1 : DenA E' w' [x] #[val] := ⟨rfl, fun i z u hz hu => by
      cases i with
      | zero => simp at hz hu; subst hz hu; exact hout
      | succ i => simp at hz⟩
    obtain ⟨g1, g2⟩ := hsub.go hd1 hr' (lenB h''.blks) (lenV h''.vecs) rfl rfl (by rw [hr'.nb]; exact hB2) (by rw [hr'.nv]; exact hV2)
    exact ⟨.ret y, h'', _, hk', g2, ⟨hx.os, hx.tape, hx.output, hx.size, by simp only []; rw [hr.nb]; exact hB, by simp only []; rw [hr.nv]; exact hV, hx.rho, hx.val, hx.keep, hx.oth⟩, g1.2 0 y val rfl rfl⟩
end Go.Eng
end

/- Contracts over an empty heap, used over any heap: own slices are lent as rows, own blocks as cells that are read; a slice that comes back new is an own one. -/
section
namespace Go.Eng
open Go.RowKit
set_option linter.unusedVariables false

def iv : SV → Int
  | .int _ x => x
  | _ => 0
/-- The numbers of a row. -/
def ivf (f : Nat → Nat → SV) : Nat → Nat → Int := fun i j => iv (f i j)
theorem ivf_lit (k : IntKind) (z : Nat → Nat → Int) : ivf (fun i j => .int k (z i j)) = z := rfl
def IntR (n sz : Nat) (f : Nat → Nat → SV) : Prop := ∀ i j, i < n → j < sz → f i j = .int .i64 (iv (f i j))
/-- Numbers of one kind. -/
def IntK (k : IntKind) (n sz : Nat) (f : Nat → Nat → SV) : Prop := ∀ i j, i < n → j < sz → f i j = .int k (iv (f i j))
def Sc : SV → Prop
  | .any => True
  | .int _ _ => True
  | .bool _ => True
  | .str _ => True
  | .nilp => True
  | .nils _ _ => True
  | .nilf => True
  | .nili => True
  | .func _ [] => True
  | _ => False
def ScL : List SV → Prop
  | [] => True
  | x :: l => Sc x ∧ ScL l
/-- Numbers and bools, alone or in a struct. -/
def Fl1 : SV → Prop
  | .agg l => ScL l
  | x => Sc x
def FlL : List SV → Prop
  | [] => True
  | x :: l => Fl1 x ∧ FlL l
def Fl : SV → Prop
  | .tup l => FlL l
  | x => Fl1 x
def mapF (F : SV → SV) : List SV → List SV
  | [] => []
  | x :: l => F x :: mapF F l
def frzV (F : SV → SV) (ver : Nat) : Vc → SV
  | .live ver' _ sz n f => if ver = ver' then .row n sz (fun i j => F (f i j)) else .any
  | .dead => .any
def frzB (F : SV → SV) (off : Nat) : Blk → SV
  | .live _ cells => .rptr (lenS cells - off) (fun j => F (nth cells (off + j)))
  | _ => .any
def frzC (F : SV → SV) (ver sz lo n : Nat) : Vc → SV
  | .live ver' _ sz' _ f => if ver = ver' then if sz = sz' then .row n sz (fun i j => F (f (lo + i) j)) else .any else .any
  | .dead => .any
def frzF : Nat → HS → SV → SV
  | 0, _, x => x
  | k + 1, h, .vec id ver => frzV (frzF k h) ver (getV h.vecs id)
  | k + 1, h, .vcut id ver sz lo n _ => frzC (frzF k h) ver sz lo n (getV h.vecs id)
  | k + 1, h, .ptr nm off => frzB (frzF k h) off (getB h.blks nm)
  | k + 1, h, .agg l => .agg (mapF (frzF k h) l)
  | _ + 1, _, .nils _ sz => .row 0 sz (fun _ _ => .any)
  | _ + 1, _, x => x
def frzA (h : HS) : List SV → List SV
  | [] => []
  | x :: l => frzF 4 h x :: frzA h l

theorem mapF_eq (F : SV → SV) (l : List SV) : mapF F l = l.map F := by induction l <;> simp [mapF, *]
theorem frzA_eq (h : HS) (l : List SV) : frzA h l = l.map (frzF 4 h) := by induction l <;> simp [frzA, *]
theorem Sc.den {E E' : Env} {w w' : World} {x : SV} {v : Value} (h : Sc x) (hd : Den E w x v) : Den E' w' x v := by
  cases hd <;> first
    | exact .any _
    | exact .int _ _
    | exact .bool _
    | exact .str _
    | exact .nilp
    | exact .nils ‹_›
    | exact .nilf
    | exact .nili
    | exact (False.elim h)
    | (rename_i caps vs hs hd; cases caps with
        | nil => exact .func vs hs (fun i x u hx => by simp at hx)
        | cons _ _ => exact (False.elim h))
theorem ScL_get : ∀ {l : List SV}, ScL l → ∀ (i : Nat) (x : SV), l[i]? = some x → Sc x
  | [], _, i, x, h => by simp at h
  | y :: l, hs, 0, x, h => by simp at h; subst h; exact hs.1
  | y :: l, hs, i + 1, x, h => ScL_get hs.2 i x (by simpa using h)
theorem FlL_get : ∀ {l : List SV}, FlL l → ∀ (i : Nat) (x : SV), l[i]? = some x → Fl1 x
  | [], _, i, x, h => by simp at h
  | y :: l, hs, 0, x, h => by simp at h; subst h; exact hs.1
  | y :: l, hs, i + 1, x, h => FlL_get hs.2 i x (by simpa using h)
theorem Fl1.den {E E' : Env} {w w' : World} {x : SV} {v : Value} (h : Fl1 x) (hd : Den E w x v) : Den E' w' x v := by
  cases x with
  | agg l =>
    cases hd with | agg vs hs h1 hd =>
    exact .agg vs hs h1 (fun i x u hx hu => (ScL_get h i x hx).den (hd i x u hx hu))
  | _ => exact Sc.den h hd
theorem Fl.den {E E' : Env} {w w' : World} {x : SV} {v : Value} (h : Fl x) (hd : Den E w x v) : Den E' w' x v := by
  cases x with
  | tup l =>
    cases hd
    rename_i vs hs hd
    exact .tup vs hs (fun i x u hx hu => (FlL_get h i x hx).den (hd i x u hx hu))
  | agg l => exact Fl1.den h hd
  | _ => exact Sc.den h hd

/-- The ghost of a callee to which own slices and blocks are lent. -/
def Env.lent (E : Env) : Env := { nb := 0, rho := E.rho, nv := 0, val := E.val, own := fun b => match E.own b with | some .other => some .other | _ => none }
theorem lent_rel {E : Env} {h : HS} {w : World} (hr : RelH E h w) : RelH E.lent ⟨[], []⟩ w :=
  ⟨rfl, rfl, fun nm ty c h => by simp [getB] at h, fun id a b c d e h => by simp [getV] at h, fun b t hb => (by
    simp only [Env.lent] at hb
    split at hb
    · rename_i ho; exact hr.own b _ ho
    · cases hb), fun nm st pend fid t params assign body hb => by simp [getB] at hb, fun nm m hb => by simp [getB] at hb⟩
theorem lent_own {E : Env} {b : Nat} {t : Tag} (h : E.own b = some t) (ht : t ≠ .other) : E.lent.own b = none := by
  simp only [Env.lent, h]
  cases t <;> first | rfl | exact absurd rfl ht
theorem lent_turn {E : Env} {w : World} {x : SV} {v : Value} (hd : Den E w x v) (hb : Bd 0 0 x) : Den E.lent w x v :=
  hd.turn hb (fun nm hn => by simp [Env.lent] at hn) (fun id ver y hi => by simp [Env.lent] at hi) (fun b _ ho => by simp [Env.lent, ho])

/-- Frozen: seen from a ghost in which what is own is foreign. -/
theorem frzF_den {E : Env} {h : HS} {w : World} (hr : RelH E h w) : ∀ (k : Nat) {x : SV} {v : Value}, Den E w x v → Bd 0 0 (frzF k h x) → Den E.lent w (frzF k h x) v
  | 0, x, v, hd, hb => lent_turn hd hb
  | k + 1, x, v, hd, hb => by
    have ih := @frzF_den E h w hr k
    cases hd with
    | @vec id ver a n cap hi hv =>
      simp only [frzF] at hb ⊢
      cases hg : getV h.vecs id with
      | dead => exact .any _
      | live ver' ty sz n' f =>
        rw [hg] at hb
        simp only [frzV] at hb ⊢
        split
        · rename_i e
          subst e
          rw [if_pos rfl] at hb
          simp only [Bd] at hb
          obtain ⟨h0, ⟨a', cap', h2, h3⟩, h4⟩ := hr.vec id ver ty sz n' f hg
          rw [hv] at h2
          cases h2
          rcases h3 with ⟨_, rfl, rfl⟩ | ⟨b, o, cur, rfl, k2, k3, k4, k5, k6, k7, k8⟩
          · exact .rowZ _ _
          · have hlt : ∀ i j, i < n → j < sz → i * sz + j < n * sz := fun i j hi hj => by
              have := Nat.mul_le_mul_right sz (Nat.succ_le_of_lt hi)
              rw [Nat.succ_mul] at this
              omega
            have hle : o + n * sz ≤ cur.size := Nat.le_trans (Nat.add_le_add_left (Nat.mul_le_mul_right sz k2) _) k5
            have hget : ∀ i j, i < n → j < sz → cur[o + (i * sz + j)]? = some (cur.getD (o + (i * sz + j)) undef) := fun i j hi hj => by
              have := hlt i j hi hj
              have h2 : o + (i * sz + j) < cur.size := by omega
              simp [Array.getD, h2]
            refine .row ⟨b, o, none⟩ cap (fun i j => cur.getD (o + (i * sz + j)) undef) (hr.own _ _ k6) (lent_own k6 (by intro e; cases e)) k2 (fun i j hi hj => ?_) (fun i j hi hj => k7 _ _ (hlt i j hi hj) (hget i j hi hj)) (fun i j hi hj => ih (k8 i j _ hi hj (hget i j hi hj)) (hb i j hi hj))
            rw [Addr.add_lit]
            have h2 : o + (i * sz + j) < cur.size := by have := hlt i j hi hj; omega
            simp [World.cell?, k4, h2, Array.getD]
        · exact .any _
    | @vcut id ver sz lo n x a a9 N cap hi hv hn hc ha9 h09 hA9 hB9 =>
      simp only [frzF] at hb ⊢
      cases hg : getV h.vecs id with
      | dead => exact .any _
      | live ver' ty sz' N' f =>
        rw [hg] at hb
        simp only [frzC] at hb ⊢
        split
        rotate_left
        · exact .any _
        rename_i e
        subst e
        rw [if_pos rfl] at hb
        split
        rotate_left
        · exact .any _
        rename_i e
        subst e
        rw [if_pos rfl] at hb
        simp only [Bd] at hb
        obtain ⟨h0, ⟨a', cap', h2, h3⟩, h4⟩ := hr.vec id ver ty sz N' f hg
        rw [hv] at h2
        cases h2
        rcases h3 with ⟨_, rfl, rfl⟩ | ⟨b, o, cur, rfl, k2, k3, k4, k5, k6, k7, k8⟩
        · obtain rfl : n = 0 := by omega
          exact .rowZ _ _
        · by_cases hM : (if x = true then lo + n else cap) = lo
          · have : n = 0 := by cases x <;> simp at hM <;> omega
            subst this
            exact .rowZ _ _
          · rw [ha9 hM]
            have hlt : ∀ i j, i < n → j < sz → (lo + i) * sz + j < N * sz := fun i j hi hj => by
              have := Nat.mul_le_mul_right sz (show lo + i + 1 ≤ N by omega)
              rw [Nat.succ_mul] at this
              omega
            have hle : o + N * sz ≤ cur.size := Nat.le_trans (Nat.add_le_add_left (Nat.mul_le_mul_right sz k2) _) k5
            have hget : ∀ i j, i < n → j < sz → cur[o + ((lo + i) * sz + j)]? = some (cur.getD (o + ((lo + i) * sz + j)) undef) := fun i j hi hj => by
              have := hlt i j hi hj
              have h2 : o + ((lo + i) * sz + j) < cur.size := by omega
              simp [Array.getD, h2]
            have hA : (⟨b, o, none⟩ : Addr).add (lo * sz) = ⟨b, o + lo * sz, none⟩ := by rw [Addr.add_lit]
            simp only [Option.map_some, hA]
            refine .row ⟨b, o + lo * sz, none⟩ _ (fun i j => cur.getD (o + ((lo + i) * sz + j)) undef) (hr.own _ _ k6) (lent_own k6 (by intro e; cases e)) (by cases x <;> simp <;> omega) (fun i j hi hj => ?_) (fun i j hi hj => k7 _ _ (hlt i j hi hj) (hget i j hi hj)) (fun i j hi hj => ih (k8 (lo + i) j _ (by omega) hj (hget i j hi hj)) (hb i j hi hj))
            have e : o + lo * sz + (i * sz + j) = o + ((lo + i) * sz + j) := by rw [Nat.add_mul]; omega
            rw [Addr.add_lit, ← hget i j hi hj, ← e]
            simp [World.cell?, k4]
    | @ptr nm off hn =>
      simp only [frzF] at hb ⊢
      cases hg : getB h.blks nm with
      | dead => exact .any _
      | loop => exact .any _
      | mp => exact .any _
      | live ty cells =>
        rw [hg] at hb
        simp only [frzB, Bd] at hb ⊢
        obtain ⟨cs, a1, a2, a3, a4⟩ := hr.blk nm ty cells hg
        rw [lenS_eq] at hb ⊢
        have hsz := a2.1
        have hget : ∀ j, j < cells.length - off → cs[off + j]? = some (cs.getD (off + j) undef) := fun j hj => by
          have h2 : off + j < cs.size := by omega
          simp [Array.getD, h2]
        refine .rptr ⟨E.rho nm, off, none⟩ (fun j => cs.getD (off + j) undef) (hr.own _ _ a4) (lent_own a4 (by intro e; cases e)) (fun j hj => ?_) (fun j hj => a3 _ _ (hget j hj)) (fun j hj => ih (a2.nth _) (hb j hj))
        rw [Addr.add_lit]
        have h2 : off + j < cs.size := by omega
        simp [World.cell?, a1, h2, Array.getD]
    | @agg l vs hs h1 hd =>
      simp only [frzF, mapF_eq, Bd] at hb ⊢
      refine .agg vs (by simpa using hs) h1 (fun i x u hx hu => ?_)
      have hbx := BdL_get hb i x hx
      rw [List.getElem?_map] at hx
      cases hl : l[i]? with
      | none => simp [hl] at hx
      | some z =>
        simp [hl] at hx
        subst hx
        exact ih (hd i z u hl hu) hbx
    | any v => exact lent_turn (.any v) hb
    | int a b => exact lent_turn (.int a b) hb
    | bool a => exact lent_turn (.bool a) hb
    | str a => exact lent_turn (.str a) hb
    | nilp => exact lent_turn .nilp hb
    | nils h => exact .rowZ _ _
    | rptr a b c d e f g => exact lent_turn (.rptr a b c d e f g) hb
    | row a b c d e f g i j => exact lent_turn (.row a b c d e f g i j) hb
    | rowZ a b => exact lent_turn (.rowZ a b) hb
    | vptr a b => exact lent_turn (.vptr a b) hb
    | bsl a b => exact lent_turn (.bsl a b) hb
    | mapp a => exact lent_turn (.mapp a) hb
    | func a b c => exact lent_turn (.func a b c) hb
    | meth a b c => exact lent_turn (.meth a b c) hb
    | nilf => exact lent_turn .nilf hb
    | iface a => exact lent_turn (.iface a) hb
    | nili => exact lent_turn .nili hb
    | tup a b c => exact lent_turn (.tup a b c) hb
    | yield a => exact lent_turn (.yield a) hb
theorem frzA_den {E : Env} {h : HS} {w : World} (hr : RelH E h w) {args : List SV} {vals : Array Value} (hd : DenA E w args vals) (hb : BdL 0 0 (frzA h args)) : DenA E.lent w (frzA h args) vals := by
  refine ⟨by simpa [frzA_eq] using hd.1, fun i x u hx hu => ?_⟩
  have hcl := BdL_get hb i x hx
  rw [frzA_eq, List.getElem?_map] at hx
  cases hl : args[i]? with
  | none => simp [hl] at hx
  | some z =>
    simp [hl] at hx
    subst hx
    exact frzF_den hr 4 (hd.2 i z u hl hu) hcl
/-- What the callee leaves: all that was. -/
theorem lent_back {E : Env} {h : HS} {w : World} (hr : RelH E h w) {E' : Env} {w' : World} (hx : Ext E.lent w E' w') : (∀ b, b < w.heap.size → w'.heap[b]? = w.heap[b]?) ∧ Ext E w E w' := by
  have hkeep : ∀ b, b < w.heap.size → w'.heap[b]? = w.heap[b]? := fun b hb => by
    by_cases ho : E.lent.own b = none
    · exact (hx.keep b hb ho).2
    · have : E.lent.own b = some .other := by
        revert ho
        simp only [Env.lent]
        split <;> simp
      exact (hx.oth b this).2
  exact ⟨hkeep, ext_of_grow hr.own hx.os hx.tape hx.output hx.size hkeep⟩
/-- What the callee owns is new. -/
theorem lent_new {E E' : Env} {w w' : World} (hx : Ext E.lent w E' w') {b : Nat} {t : Tag} (ho : E'.own b = some t) (ht : t ≠ .other) : w.heap.size ≤ b := by
  rcases Nat.lt_or_ge b w.heap.size with h | h
  · exfalso
    by_cases hn : E.lent.own b = none
    · have := (hx.keep b h hn).1
      rw [ho] at this; cases this
    · have h2 : E.lent.own b = some .other := by
        revert hn
        simp only [Env.lent]
        split <;> simp
      have := (hx.oth b h2).1
      rw [ho] at this; cases this; exact ht rfl
  · exact h

/-- Two ways to say the same. -/
structure SameD (x y : SV) : Prop where
  out : ∀ E w v, Den E w x v → Den E w y v
theorem SameD.rfl' (x : SV) : SameD x x := ⟨fun _ _ _ h => h⟩
/- ### results with slices of the callee's own: rows, for who calls -/
def VcR (ver n sz : Nat) (f : Nat → Nat → SV) : Vc → Prop
  | .live ver' _ sz' n' f' => ver' = ver ∧ sz' = sz ∧ n' = n ∧ ∀ i j, i < n → j < sz → f' i j = f i j ∧ Sc (f i j)
  | .dead => False
def CutR (ver lo n sz : Nat) (f : Nat → Nat → SV) : Vc → Prop
  | .live ver' _ sz' n' f' => ver' = ver ∧ sz' = sz ∧ ∀ i j, i < n → j < sz → f' (lo + i) j = f i j ∧ Sc (f i j)
  | .dead => False
def RowIs (h : HS) (n sz : Nat) (f : Nat → Nat → SV) : SV → Prop
  | .vec id ver => VcR ver n sz f (getV h.vecs id)
  | .vcut id ver sz' lo n' _ => sz' = sz ∧ n' = n ∧ CutR ver lo n sz f (getV h.vecs id)
  | _ => False
def fz0 (h : HS) (u : SV) : SV → Prop
  | .row n sz f => RowIs h n sz f u
  | v => u = v ∧ Sc v
def fzL (h : HS) : List SV → List SV → Prop
  | [], [] => True
  | u :: us, v :: vs => fz0 h u v ∧ fzL h us vs
  | _, _ => False
def fzA (h : HS) (vs : List SV) : SV → Prop
  | .agg us => fzL h us vs
  | _ => False
def fz1 (h : HS) (u : SV) : SV → Prop
  | .agg vs => fzA h vs u
  | v => fz0 h u v
def fz1L (h : HS) : List SV → List SV → Prop
  | [], [] => True
  | u :: us, v :: vs => fz1 h u v ∧ fz1L h us vs
  | _, _ => False
def fzU (h : HS) (vs : List SV) : SV → Prop
  | .tup us => fz1L h us vs
  | _ => False
def FzT (h : HS) (u : SV) : SV → Prop
  | .tup vs => fzU h vs u
  | v => fz1 h u v
theorem fzL_get {h' : HS} {us vs : List SV} (h : fzL h' us vs) : us.length = vs.length ∧ ∀ (i : Nat) (u v : SV), us[i]? = some u → vs[i]? = some v → fz0 h' u v := by
  induction us generalizing vs with
  | nil => cases vs with
    | nil => exact ⟨rfl, fun i u v h => by simp at h⟩
    | cons _ _ => exact h.elim
  | cons x us ih => cases vs with
    | nil => exact h.elim
    | cons y vs =>
      obtain ⟨h1, h2⟩ := ih h.2
      refine ⟨by simp [h1], fun i u v hu hv => ?_⟩
      cases i with
      | zero => simp at hu hv; subst hu hv; exact h.1
      | succ i => exact h2 i u v (by simpa using hu) (by simpa using hv)
theorem fz1L_get {h' : HS} {us vs : List SV} (h : fz1L h' us vs) : us.length = vs.length ∧ ∀ (i : Nat) (u v : SV), us[i]? = some u → vs[i]? = some v → fz1 h' u v := by
  induction us generalizing vs with
  | nil => cases vs with
    | nil => exact ⟨rfl, fun i u v h => by simp at h⟩
    | cons _ _ => exact h.elim
  | cons x us ih => cases vs with
    | nil => exact h.elim
    | cons y vs =>
      obtain ⟨h1, h2⟩ := ih h.2
      refine ⟨by simp [h1], fun i u v hu hv => ?_⟩
      cases i with
      | zero => simp at hu hv; subst hu hv; exact h.1
      | succ i => exact h2 i u v (by simpa using hu) (by simpa using hv)
section
variable {E E' : Env} {h' : HS} {w' : World} (hr : RelH E' h' w') (hn : ∀ b id, E'.own b = some (.vec id) → E.own b = none)
include hr hn
theorem rowIs_den {n sz : Nat} {f : Nat → Nat → SV} {u : SV} {val : Value} (h : RowIs h' n sz f u) (hd : Den E' w' u val) : Den E w' (.row n sz f) val := by
  unfold RowIs at h
  split at h
  · rename_i id ver
    cases hg : getV h'.vecs id with
    | dead => rw [hg] at h; exact h.elim
    | live ver' ty sz' n' f' =>
      rw [hg] at h
      obtain ⟨rfl, rfl, rfl, hf⟩ := h
      cases hd
      rename_i a n1 cap1 hi hval
      obtain ⟨h0', ⟨a', cap', h2, h3⟩, _⟩ := hr.vec id _ _ _ _ _ hg
      rw [hval] at h2
      cases h2
      rcases h3 with ⟨_, rfl, rfl⟩ | ⟨b, o, cur, rfl, k2, k3, k4, k5, k6, k7, k8⟩
      · exact .rowZ _ _
      · have hle := Nat.le_trans (Nat.add_le_add_left (Nat.mul_le_mul_right sz' k2) o) k5
        have hget : ∀ i j, i < n' → j < sz' → cur[o + (i * sz' + j)]? = some (cur.getD (o + (i * sz' + j)) undef) := fun i j hi hj => by
          have := idx_lt hi hj
          simp [Array.getD, show o + (i * sz' + j) < cur.size by omega]
        refine .row ⟨b, o, none⟩ cap1 (fun i j => cur.getD (o + (i * sz' + j)) undef) (hr.own _ _ k6) (hn _ _ k6) k2 (fun i j hi hj => ?_) (fun i j hi hj => k7 _ _ (idx_lt hi hj) (hget i j hi hj)) (fun i j hi hj => ?_)
        · rw [Addr.add_lit]
          have := idx_lt hi hj
          have h2 : o + (i * sz' + j) < cur.size := by omega
          simp [World.cell?, k4, h2, Array.getD]
        · obtain ⟨q1, q2⟩ := hf i j hi hj
          have := k8 i j _ hi hj (hget i j hi hj)
          rw [q1] at this
          exact q2.den this
  · rename_i id ver sz1 lo n1 x1
    obtain ⟨rfl, rfl, h⟩ := h
    cases hg : getV h'.vecs id with
    | dead => rw [hg] at h; exact h.elim
    | live ver' ty sz' n' f' =>
      rw [hg] at h
      obtain ⟨rfl, rfl, hf⟩ := h
      obtain ⟨a1, a2, N1, cap1, rfl, hid, hval, hnn, hc1, ha, h0, hA, hB⟩ := hd.vcut_inv
      obtain ⟨h0', ⟨a', cap', h2, h3⟩, _⟩ := hr.vec id _ _ _ _ _ hg
      rw [hval] at h2
      cases h2
      rcases h3 with ⟨_, rfl, rfl⟩ | ⟨b, o, cur, rfl, k2, k3, k4, k5, k6, k7, k8⟩
      · obtain rfl : n1 = 0 := by omega
        exact .rowZ _ _
      · by_cases hM : (if x1 = true then lo + n1 else cap1) = lo
        · have : n1 = 0 := by cases x1 <;> simp at hM <;> omega
          subst this
          exact .rowZ _ _
        · rw [ha hM]
          have hA' : (⟨b, o, none⟩ : Addr).add (lo * sz') = ⟨b, o + lo * sz', none⟩ := by rw [Addr.add_lit]
          simp only [Option.map_some, hA']
          have hle := Nat.le_trans (Nat.add_le_add_left (Nat.mul_le_mul_right sz' k2) o) k5
          have hlt : ∀ i j, i < n1 → j < sz' → (lo + i) * sz' + j < n' * sz' := fun i j hi hj => idx_lt (by omega) hj
          have hget : ∀ i j, i < n1 → j < sz' → cur[o + ((lo + i) * sz' + j)]? = some (cur.getD (o + ((lo + i) * sz' + j)) undef) := fun i j hi hj => by
            have := hlt i j hi hj
            simp [Array.getD, show o + ((lo + i) * sz' + j) < cur.size by omega]
          refine .row ⟨b, o + lo * sz', none⟩ _ (fun i j => cur.getD (o + ((lo + i) * sz' + j)) undef) (hr.own _ _ k6) (hn _ _ k6) (by cases x1 <;> simp <;> omega) (fun i j hi hj => ?_) (fun i j hi hj => k7 _ _ (hlt i j hi hj) (hget i j hi hj)) (fun i j hi hj => ?_)
          · have e : o + lo * sz' + (i * sz' + j) = o + ((lo + i) * sz' + j) := by rw [Nat.add_mul]; omega
            rw [Addr.add_lit, ← hget i j hi hj, ← e]
            simp [World.cell?, k4]
          · obtain ⟨q1, q2⟩ := hf i j hi hj
            have := k8 (lo + i) j _ (by omega) hj (hget i j hi hj)
            rw [q1] at this
            exact q2.den this
  · exact h.elim
theorem fz0_den {u v : SV} {val : Value} (h : fz0 h' u v) (hd : Den E' w' u val) : Den E w' v val := by
  unfold fz0 at h
  split at h
  · exact rowIs_den hr hn h hd
  · obtain ⟨rfl, h2⟩ := h
    exact h2.den hd
theorem fz1_den {u v : SV} {val : Value} (h : fz1 h' u v) (hd : Den E' w' u val) : Den E w' v val := by
  unfold fz1 at h
  split at h
  · unfold fzA at h
    split at h
    · obtain ⟨l1, l2⟩ := fzL_get h
      cases hd with
      | agg vals hs h1 hd =>
      refine .agg vals (by omega) h1 (fun i x u hx hu => ?_)
      have hil := (List.getElem?_eq_some_iff.1 hx).1
      exact fz0_den hr hn (l2 i _ _ (List.getElem?_eq_getElem (by omega)) hx) (hd i _ u (List.getElem?_eq_getElem (by omega)) hu)
    · exact h.elim
  · exact fz0_den hr hn h hd
theorem fzT_den {u v : SV} {val : Value} (h : FzT h' u v) (hd : Den E' w' u val) : Den E w' v val := by
  unfold FzT at h
  split at h
  · unfold fzU at h
    split at h
    · obtain ⟨l1, l2⟩ := fz1L_get h
      cases hd with
      | tup vals hs hd =>
      refine .tup vals (by omega) (fun i x u hx hu => ?_)
      have hil := (List.getElem?_eq_some_iff.1 hx).1
      exact fz1_den hr hn (l2 i _ _ (List.getElem?_eq_getElem (h := by omega)) hx) (hd i _ u (List.getElem?_eq_getElem (h := by omega)) hu)
    · exact h.elim
  · exact fz1_den hr hn h hd
end
/-- What a function does with rows and numbers, over an empty heap: numbers come back. -/
def Base (P : Program) (g : Nat) (base : List SV → Option (Prop × SV)) : Prop :=
  ∀ args p v, base args = some (p, v) → p → BdL 0 0 args ∧ CallsS P g args ⟨[], []⟩ (fun o h' => ∃ u, o = .ret u ∧ ((Fl u ∧ SameD u v) ∨ FzT h' u v))
def lendR (r : Option (Prop × SV)) (h : HS) : Option (Prop × SV × HS) := match r with
  | some (p, v) => some (p, v, h)
  | none => none
def lendS (base : List SV → Option (Prop × SV)) : Spec := fun args h => lendR (base (frzA h args)) h

theorem lend_ok {P : Program} {g : Nat} {base : List SV → Option (Prop × SV)} (hb : Base P g base) : ∀ args h p v h1, lendS base args h = some (p, v, h1) → p → CallsS P g args h fun o h' => o = .ret v ∧ h' = h1 := by
  intro args h0 p v h1 hq hp E w vals hr hd
  unfold lendS lendR at hq
  split at hq
  rotate_left
  · cases hq
  rename_i p' v' hbase
  cases hq
  obtain ⟨b1, b3⟩ := hb _ _ _ hbase hp
  refine (b3 E.lent w vals (lent_rel hr) (frzA_den hr hd b1)).mono ?_
  rintro e w' ⟨o, h', E', ⟨u, rfl, hres⟩, hr', hx, hout⟩
  obtain ⟨hkeep, hx2⟩ := lent_back hr hx
  refine ⟨.ret v, _, E, ⟨rfl, rfl⟩, hr.quiet hx2 hkeep, hx2, ?_⟩
  cases e with
  | returned val =>
    rcases hres with ⟨hfl, hsd⟩ | hfz
    · exact hsd.out _ _ _ (hfl.den hout)
    · exact fzT_den hr' (fun b id hb => by
        have := lent_new hx hb (by intro e; cases e)
        cases ho : E.own b with
        | none => rfl
        | some t => have := hr.own b t ho; omega) hfz hout
  | panicked _ => exact hout.elim
  | outgrown => exact hout.elim

/- ### one new slice among the results -/
def VcIs (ver : Nat) (ty : TypeId) (n sz : Nat) (f : Nat → Nat → SV) : Vc → Prop
  | .live ver' ty' sz' n' f' => ver' = ver ∧ ty' = ty ∧ sz' = sz ∧ n' = n ∧ ∀ i j, i < n → j < sz → f' i j = f i j ∧ Sc (f i j)
  | .dead => False
def IsVec (h : HS) (ty : TypeId) (n sz : Nat) (f : Nat → Nat → SV) : SV → Prop
  | .vec id ver => VcIs ver ty n sz f (getV h.vecs id)
  | _ => False
def OwnL (h : HS) (ty : TypeId) : List SV → List SV → Prop
  | u :: us, .row n sz f :: vs => IsVec h ty n sz f u ∧ us = vs ∧ FlL vs
  | u :: us, v :: vs => u = v ∧ Fl1 v ∧ OwnL h ty us vs
  | _, _ => False
def OwnT (h : HS) (ty : TypeId) : SV → SV → Prop
  | .tup us, .tup vs => OwnL h ty us vs
  | u, .row n sz f => IsVec h ty n sz f u
  | _, _ => False
def takeL (M : Nat) (ty : TypeId) : List SV → List SV × Vc
  | [] => ([], .dead)
  | .row n sz f :: l => (.vec M 0 :: l, .live 0 ty sz n f)
  | x :: l => (x :: (takeL M ty l).1, (takeL M ty l).2)
def takeT (M : Nat) (ty : TypeId) : SV → SV × Vc
  | .row n sz f => (.vec M 0, .live 0 ty sz n f)
  | .tup l => (.tup (takeL M ty l).1, (takeL M ty l).2)
  | x => (x, .dead)
def BaseO (P : Program) (g : Nat) (ty : TypeId) (base : List SV → Option (Prop × SV)) : Prop :=
  ∀ args p v, base args = some (p, v) → p → BdL 0 0 args ∧ CallsS P g args ⟨[], []⟩ (fun o h' => ∃ u, o = .ret u ∧ OwnT h' ty u v)
def lendRO (ty : TypeId) (r : Option (Prop × SV)) (h : HS) : Option (Prop × SV × HS) := match r with
  | some (p, v) => some (p, (takeT (lenV h.vecs) ty v).1, { h with vecs := snocV h.vecs (takeT (lenV h.vecs) ty v).2 })
  | none => none
def lendO (ty : TypeId) (base : List SV → Option (Prop × SV)) : Spec := fun args h => lendRO ty (base (frzA h args)) h

theorem ownL_get {h : HS} {ty : TypeId} : ∀ {us vs : List SV}, OwnL h ty us vs → ∃ pre post u n sz f, us = pre ++ u :: post ∧ IsVec h ty n sz f u ∧ FlL pre ∧ FlL post ∧ ∀ M, takeL M ty vs = (pre ++ .vec M 0 :: post, .live 0 ty sz n f) := by
  intro us vs
  fun_induction OwnL h ty us vs with
  | case1 u us n sz f vs => rintro ⟨h1, rfl, h2⟩; exact ⟨[], us, u, n, sz, f, rfl, h1, trivial, h2, fun M => rfl⟩
  | case2 u us v vs hne ih =>
    rintro ⟨rfl, h1, h2⟩
    obtain ⟨pre, post, u', n, sz, f, rfl, k1, k2, k3, k4⟩ := ih h2
    exact ⟨u :: pre, post, u', n, sz, f, rfl, k1, ⟨h1, k2⟩, k3, fun M => by cases u <;> first | (simp [takeL, k4 M]; done) | exact (hne _ _ _ rfl).elim⟩
  | case3 => intro h; exact h.elim

/-- The slice that came back becomes an own one. -/
theorem adopt_ok {E E' : Env} {h0 h' : HS} {w w' : World} (hr : RelH E h0 w) (hx : Ext E.lent w E' w') (hr' : RelH E' h' w') {ty : TypeId} {n sz : Nat} {f : Nat → Nat → SV} {u : SV} {val : Value} (hv : IsVec h' ty n sz f u) (hd : Den E' w' u val) :
    ∃ E2, RelH E2 { h0 with vecs := snocV h0.vecs (.live 0 ty sz n f) } w' ∧ Ext E w E2 w' ∧ Den E2 w' (.vec (lenV h0.vecs) 0) val := by
  obtain ⟨hkeep, hx2⟩ := lent_back hr hx
  unfold IsVec at hv
  split at hv
  rotate_left
  · exact hv.elim
  rename_i id ver
  cases hd
  rename_i a n1 cap1 hi hval
  cases hg : getV h'.vecs id with
  | dead => rw [hg] at hv; exact hv.elim
  | live ver' ty' sz' n' f' =>
    rw [hg] at hv
    obtain ⟨rfl, rfl, rfl, rfl, hf⟩ := hv
    obtain ⟨h0', ⟨a', cap', h2, h3⟩, _⟩ := hr'.vec id _ _ _ _ _ hg
    rw [hval] at h2
    cases h2
    rcases h3 with ⟨hA0, rfl, rfl⟩ | ⟨b, o, cur, rfl, k2, k3, k4, k5, k6, k7, k8⟩
    · exact ⟨E.newVA a, (hr.quiet hx2 hkeep).newVecA _ _ h0' _ a hA0, hx2.trans (ext_newVA E w' a), .vec (by simp only [Env.newVA, hr.nv]; omega) (by simp [Env.newVA, hr.nv])⟩
    · obtain ⟨r1, r2⟩ := hr.adoptO (o := o) hx2 hkeep h0' (f := f) (lent_new hx k6 (by intro e; cases e)) (hr'.own _ _ k6) k2 k3 k4 k5 k7 (fun i j u hi hj hu => by
        obtain ⟨q1, q2⟩ := hf i j hi hj
        have := k8 i j u hi hj hu
        rw [q1] at this
        exact q2.den this)
      exact ⟨_, r1, r2, .vec (by simp only [Env.adopt, hr.nv]; omega) (by simp [Env.adopt, hr.nv])⟩

theorem lendO_ok {P : Program} {g : Nat} {ty : TypeId} {base : List SV → Option (Prop × SV)} (hb : BaseO P g ty base) : ∀ args h p v h1, lendO ty base args h = some (p, v, h1) → p → CallsS P g args h fun o h' => o = .ret v ∧ h' = h1 := by
  intro args h0 p v h1 hq hp E w vals hr hd
  unfold lendO lendRO at hq
  split at hq
  rotate_left
  · cases hq
  rename_i p' v' hbase
  cases hq
  obtain ⟨b1, b3⟩ := hb _ _ _ hbase hp
  refine (b3 E.lent w vals (lent_rel hr) (frzA_den hr hd b1)).mono ?_
  rintro e w' ⟨o, h', E', ⟨u, rfl, hown⟩, hr', hx, hout⟩
  cases e with
  | panicked _ => exact hout.elim
  | outgrown => exact hout.elim
  | returned val =>
    simp only at hout
    unfold OwnT at hown
    split at hown
    · rename_i us vs
      obtain ⟨pre, post, u, n, sz, f, rfl, k1, k2, k3, k4⟩ := ownL_get hown
      cases hout
      rename_i tv hts htd
      have hmid : ∃ y, tv[pre.length]? = some y := by
        have : pre.length < tv.size := by rw [hts]; simp
        exact ⟨tv[pre.length], by simp [this]⟩
      obtain ⟨y, hy⟩ := hmid
      obtain ⟨E2, r1, r2, r3⟩ := adopt_ok hr hx hr' k1 (htd pre.length u y (by simp) hy)
      refine ⟨_, _, E2, ⟨rfl, rfl⟩, ?_, r2, ?_⟩
      · simp only [takeT, k4]; exact r1
      · simp only [takeT, k4]
        refine .tup tv (by rw [hts]; simp) (fun i x z hx hz => ?_)
        rcases Nat.lt_trichotomy i pre.length with hi | hi | hi
        · rw [List.getElem?_append_left hi] at hx
          exact (FlL_get k2 i x hx).den (htd i x z (by rw [List.getElem?_append_left hi]; exact hx) hz)
        · subst hi
          rw [hy] at hz
          cases hz
          simp at hx
          subst hx
          exact r3
        · obtain ⟨d, hd'⟩ : ∃ d, i = pre.length + (d + 1) := ⟨i - pre.length - 1, by omega⟩
          subst hd'
          rw [List.getElem?_append_right (by omega)] at hx
          have e : pre.length + (d + 1) - pre.length = d + 1 := by omega
          rw [e] at hx
          simp only [List.getElem?_cons_succ] at hx
          refine (FlL_get k3 d x hx).den (htd _ x z ?_ hz)
          rw [List.getElem?_append_right (by omega), e]
          simpa using hx
    · rename_i n sz f
      obtain ⟨E2, r1, r2, r3⟩ := adopt_ok hr hx hr' hown hout
      exact ⟨_, _, E2, ⟨rfl, rfl⟩, r1, r2, r3⟩
    · exact hown.elim
end Go.Eng
end

/- Facts for reckoning the machine out. -/
section
namespace Go.Eng
open Go.RowKit
set_option linter.unusedVariables false

def lookG : List (Nat × (List SV → Option (Prop × SV))) → Nat → Option (List SV → Option (Prop × SV))
  | [], _ => none
  | (k, f) :: l, g => if g = k then some f else lookG l g
def memN : List Nat → Nat → Bool
  | [], _ => false
  | k :: l, g => if g = k then true else memN l g

/-- n temporaries, some of them known. -/
def setL (n : Nat) : List (Nat × SV) → List SV
  | [] => anys n
  | (i, x) :: l => upd (setL n l) i x
def lookS (n : Nat) : List (Nat × SV) → Nat → SV
  | [], _ => .any
  | (i, x) :: l, j => if j = i then (if i < n then x else .any) else lookS n l j
theorem anys_len (n : Nat) : (anys n).length = n := by simp [anys_eq]
theorem setL_len (n : Nat) : ∀ (l : List (Nat × SV)), (setL n l).length = n
  | [] => anys_len n
  | (i, x) :: l => by simp [setL, upd_eq, setL_len n l]
theorem nth_anys (n j : Nat) : nth (anys n) j = .any := by
  rw [nth_eq, anys_eq]
  by_cases h : j < n
  · simp [List.getD, List.getElem?_replicate, h]
  · simp [List.getD, List.getElem?_replicate, h]
theorem nth_setL (n : Nat) : ∀ (l : List (Nat × SV)) (j : Nat), nth (setL n l) j = lookS n l j
  | [], j => nth_anys n j
  | (i, x) :: l, j => by
    simp only [setL, lookS, ← nth_setL n l j]
    rw [nth_eq, upd_eq, nth_eq]
    simp only [List.getD, List.getElem?_set]
    by_cases e : j = i
    · subst e
      by_cases hl : j < n
      · simp [hl, setL_len]
      · simp [hl, setL_len]
    · simp [e, Ne.symm e]
theorem upd_setL (n i : Nat) (v : SV) (l : List (Nat × SV)) : upd (setL n l) i v = setL n ((i, v) :: l) := rfl
def numb : Nat → List SV → List (Nat × SV) → List (Nat × SV)
  | _, [], acc => acc
  | i, x :: l, acc => numb (i + 1) l ((i, x) :: acc)
theorem numb_set : ∀ (l : List SV) (pre : List SV) (m : Nat) (acc : List (Nat × SV)), setL (pre.length + (l.length + m)) acc = pre ++ anys (l.length + m) →
    setL (pre.length + (l.length + m)) (numb pre.length l acc) = pre ++ (l ++ anys m)
  | [], pre, m, acc, h => by simpa [numb] using h
  | x :: l, pre, m, acc, h => by
    have h2 := numb_set l (pre ++ [x]) m ((pre.length, x) :: acc) (by
      have e : (pre ++ [x]).length + (l.length + m) = pre.length + ((x :: l).length + m) := by simp; omega
      rw [e]
      simp only [setL, h]
      rw [upd_eq, anys_eq, anys_eq]
      have : (x :: l).length + m = (l.length + m) + 1 := by simp; omega
      rw [this, List.replicate_succ, List.set_append_right _ _ (by simp)]
      simp)
    have e : (pre ++ [x]).length + (l.length + m) = pre.length + ((x :: l).length + m) := by simp; omega
    rw [e] at h2
    simp only [numb]
    have e2 : (pre ++ [x]).length = pre.length + 1 := by simp
    rw [e2] at h2
    simpa using h2
theorem cat_setL (l : List SV) (m : Nat) : catS l (anys m) = setL (lenS l + m) (numb 0 l []) := by
  have := numb_set l [] m [] (by simp [setL])
  rw [catS_eq, lenS_eq]
  simpa using this.symm

/-- One state says no more than another one: place by place. -/
def subAs (n : Nat) (l : List (Nat × SV)) : List (Nat × SV) → Prop
  | [] => True
  | (i, x) :: k => subX (lookS n l i) x ∧ subAs n l k
theorem subX_any (x : SV) : subX x .any := by simp [subX]
theorem subL_of : ∀ {l k : List SV}, l.length = k.length → (∀ j, subX (nth l j) (nth k j)) → subL l k
  | [], [], _, _ => trivial
  | x :: l, y :: k, h, hs => ⟨hs 0, subL_of (by simpa using h) (fun j => hs (j + 1))⟩
  | [], _ :: _, h, _ => by simp at h
  | _ :: _, [], h, _ => by simp at h
theorem subAs_get {n : Nat} {l : List (Nat × SV)} : ∀ {k : List (Nat × SV)}, subAs n l k → ∀ j, subX (lookS n l j) (lookS n k j)
  | [], _, j => subX_any _
  | (i, x) :: k, h, j => by
    simp only [lookS]
    split
    · rename_i e
      subst e
      split
      · exact h.1
      · exact subX_any _
    · exact subAs_get h.2 j
theorem sub_setL {n : Nat} {l k : List (Nat × SV)} (h : subAs n l k) : subL (setL n l) (setL n k) :=
  subL_of (by simp [setL_len]) (fun j => by rw [nth_setL, nth_setL]; exact subAs_get h j)
def bdAs (L M : Nat) : List (Nat × SV) → Prop
  | [] => True
  | (_, x) :: k => Bd L M x ∧ bdAs L M k
theorem bd_anys (L M : Nat) : ∀ n, BdL L M (anys n)
  | 0 => trivial
  | n + 1 => ⟨trivial, bd_anys L M n⟩
theorem bd_upd {L M : Nat} {x : SV} (hx : Bd L M x) : ∀ {l : List SV} {i : Nat}, BdL L M l → BdL L M (upd l i x)
  | [], i, h => by cases i <;> exact h
  | y :: l, 0, h => ⟨hx, h.2⟩
  | y :: l, i + 1, h => ⟨h.1, bd_upd hx h.2⟩
theorem bd_setL {L M n : Nat} : ∀ {k : List (Nat × SV)}, bdAs L M k → BdL L M (setL n k)
  | [], _ => bd_anys L M n
  | (i, x) :: k, h => bd_upd h.1 (bd_setL h.2)
/-- A loop's state is met. -/
theorem sub_of {n : Nat} {l k : List (Nat × SV)} {h h' : HS} (hs : subAs n l k) (hb : subB h.blks h'.blks) (hv : subV h.vecs h'.vecs) (b1 : bdAs (lenB h'.blks) (lenV h'.vecs) k)
    (b2 : bdB2 (lenB h'.blks) (lenV h'.vecs) h'.blks) (b3 : bdV (lenB h'.blks) (lenV h'.vecs) h'.vecs) : SubM (setL n l) h (setL n k, h') :=
  .sub ⟨sub_setL hs, hb, hv, bd_setL b1, b2, b3⟩
/-- The same; the states are told by the memory at the start. -/
theorem loop_ofH {R : Rn} {fid : Nat} {body : Code} {k : List It} {n : Nat} {l : List (Nat × SV)} {fs : List Fr} {h : HS} {Q : Out → HS → Prop} (ι : Type) (st : ι → List (Nat × SV)) (hs : HS → ι → HS) (μ : ι → Nat)
    (hl : ∀ i, lenB (hs h i).blks = lenB h.blks ∧ lenV (hs h i).vecs = lenV h.vecs) (i0 : ι) (h0 : SubM (setL n l) h (setL n (st i0), hs h i0))
    (hb : ∀ i, R fid (.code body :: .inv ι (fun i => (setL n (st i), hs h i)) μ i body :: k) (setL n (st i)) fs (hs h i) Q) : LoopOb R fid body k (setL n l) fs h Q :=
  .inl ⟨ι, fun i => (setL n (st i), hs h i), μ, [], (fun _ h => by cases h), fun i => ⟨Nat.le_of_eq (hl i).1.symm, Nat.le_of_eq (hl i).2.symm⟩, ⟨i0, h0⟩, hb⟩
theorem Bd_nth {L M : Nat} : ∀ {l : List SV}, BdL L M l → ∀ j, Bd L M (nth l j)
  | [], _, j => by cases j <;> exact trivial
  | x :: l, h, 0 => h.1
  | x :: l, h, j + 1 => Bd_nth h.2 j
theorem Bd_nthT {L M n : Nat} {l : List SV} (h : BdL L M l) : (∀ j, j < n → Bd L M (nth l j)) = True := eq_true fun j _ => Bd_nth h j
attribute [irreducible] setL
end Go.Eng
end

/- A call that is handed a part of what is owned: its contract over that part alone, by names of its own. -/
section
namespace Go.Eng
open Go.RowKit
set_option linter.unusedVariables false

mutual
/-- Other names. -/
def renS (b v : Nat → Nat) : SV → SV
  | .any => .any
  | .int k n => .int k n
  | .bool x => .bool x
  | .str s => .str s
  | .ptr nm off => .ptr (b nm) off
  | .nilp => .nilp
  | .nils e sz => .nils e sz
  | .rptr sz f => .rptr sz (fun j => renS b v (f j))
  | .row n sz f => .row n sz (fun i j => renS b v (f i j))
  | .vec id ver => .vec (v id) ver
  | .vptr id ver sz i off => .vptr (v id) ver sz i off
  | .func g caps => .func g (renL b v caps)
  | .nilf => .nilf
  | .iface t x => .iface t (renS b v x)
  | .nili => .nili
  | .agg l => .agg (renL b v l)
  | .tup l => .tup (renL b v l)
  | .yield nm => .yield (b nm)
  | .meth g first => .meth g (renL b v first)
  | .vcut id ver sz lo n x => .vcut (v id) ver sz lo n x
  | .bsl nm off n => .bsl (b nm) off n
  | .mapp nm => .mapp (b nm)
def renL (b v : Nat → Nat) : List SV → List SV
  | [] => []
  | x :: l => renS b v x :: renL b v l
end
theorem renL_eq (b v : Nat → Nat) (l : List SV) : renL b v l = l.map (renS b v) := by
  induction l with
  | nil => simp [renL]
  | cons x l ih => simp [renL, ih]
def renK (b v : Nat → Nat) : Blk → Blk
  | .live ty c => .live ty (renL b v c)
  | .dead => .dead
  | .loop st pend fid t params assign body => .loop st pend fid (renL b v t) params assign body
  | .mp m => .mp m
def renC (b v : Nat → Nat) : Vc → Vc
  | .live ver ty sz n f => .live ver ty sz n (fun i j => renS b v (f i j))
  | .dead => .dead
def renO (b v : Nat → Nat) : Out → Out
  | .ret x => .ret (renS b v x)
  | .pan x => .pan (renS b v x)
  | .fin p ts => .fin (p.map (renS b v)) (renL b v ts)
  | .stop k t => .stop k (renL b v t)
  | .rnd x => .rnd (renS b v x)

section
variable {E E0 : Env} {w : World} {b v : Nat → Nat} {L M : Nat}
/-- From the small names to the great ones. -/
theorem Den.ren {x : SV} {u : Value} (hd : Den E0 w x u) (hb : Bd L M x) (h1 : ∀ nm, nm < L → nm < E0.nb → b nm < E.nb ∧ E.rho (b nm) = E0.rho nm) (h2 : ∀ id ver y, id < M → id < E0.nv → E0.val id ver = some y → v id < E.nv ∧ E.val (v id) ver = some y)
    (h3 : ∀ k, k < w.heap.size → E0.own k = none → E.own k = none) : Den E w (renS b v x) u := by
  induction hd with
  | any u => rw [renS]; exact .any u
  | int k n => rw [renS]; exact .int k n
  | bool x => rw [renS]; exact .bool x
  | str s => rw [renS]; exact .str s
  | @ptr nm off hn => simp only [Bd] at hb; rw [renS]; obtain ⟨q1, q2⟩ := h1 nm hb hn; rw [← q2]; exact .ptr q1
  | nilp => rw [renS]; exact .nilp
  | nils h => rw [renS]; exact .nils h
  | @rptr sz f A g hA ho hc h1' hd ih => simp only [Bd] at hb; rw [renS]; exact .rptr A g hA (h3 _ hA ho) hc h1' (fun j hj => ih j hj (hb j hj))
  | @row n sz f A cap g hA ho hn hc h1' hd ih => simp only [Bd] at hb; rw [renS]; exact .row A cap g hA (h3 _ hA ho) hn hc h1' (fun i j hi hj => ih i j hi hj (hb i j hi hj))
  | rowZ a cap => rw [renS]; exact .rowZ a cap
  | vec hi hv => simp only [Bd] at hb; rw [renS]; obtain ⟨q1, q2⟩ := h2 _ _ _ hb hi hv; exact .vec q1 q2
  | vptr hi hv => simp only [Bd] at hb; rw [renS]; obtain ⟨q1, q2⟩ := h2 _ _ _ hb hi hv; exact .vptr q1 q2
  | vcut hi hv hn hc ha h0 hA hB => simp only [Bd] at hb; rw [renS]; obtain ⟨q1, q2⟩ := h2 _ _ _ hb hi hv; exact .vcut q1 q2 hn hc ha h0 hA hB
  | @bsl nm off n cap hn hc => simp only [Bd] at hb; rw [renS]; obtain ⟨q1, q2⟩ := h1 nm hb hn; rw [← q2]; exact .bsl q1 hc
  | @mapp nm hn => simp only [Bd] at hb; rw [renS]; obtain ⟨q1, q2⟩ := h1 nm hb hn; rw [← q2]; exact .mapp q1
  | func vs hs hd ih =>
    simp only [Bd] at hb; rw [renS]
    refine .func vs (by rw [renL_eq]; simpa using hs) (fun i x u hx hu => ?_)
    rw [renL_eq, List.getElem?_map, Option.map_eq_some_iff] at hx
    obtain ⟨y, hy, rfl⟩ := hx
    exact ih i y u hy hu (BdL_get hb i y hy)
  | meth vs hs hd ih =>
    simp only [Bd] at hb; rw [renS]
    refine .meth vs (by rw [renL_eq]; simpa using hs) (fun i x u hx hu => ?_)
    rw [renL_eq, List.getElem?_map, Option.map_eq_some_iff] at hx
    obtain ⟨y, hy, rfl⟩ := hx
    exact ih i y u hy hu (BdL_get hb i y hy)
  | nilf => rw [renS]; exact .nilf
  | iface _ ih => simp only [Bd] at hb; rw [renS]; exact .iface (ih hb)
  | nili => rw [renS]; exact .nili
  | agg vs hs h1' hd ih =>
    simp only [Bd] at hb; rw [renS]
    refine .agg vs (by rw [renL_eq]; simpa using hs) h1' (fun i x u hx hu => ?_)
    rw [renL_eq, List.getElem?_map, Option.map_eq_some_iff] at hx
    obtain ⟨y, hy, rfl⟩ := hx
    exact ih i y u hy hu (BdL_get hb i y hy)
  | tup vs hs hd ih =>
    simp only [Bd] at hb; rw [renS]
    refine .tup vs (by rw [renL_eq]; simpa using hs) (fun i x u hx hu => ?_)
    rw [renL_eq, List.getElem?_map, Option.map_eq_some_iff] at hx
    obtain ⟨y, hy, rfl⟩ := hx
    exact ih i y u hy hu (BdL_get hb i y hy)
  | @yield nm hn => simp only [Bd] at hb; rw [renS]; obtain ⟨q1, q2⟩ := h1 nm hb hn; rw [← q2]; exact .yield q1

mutual
/-- And back. -/
theorem Den.unren (h1 : ∀ nm, nm < L → nm < E0.nb ∧ E0.rho nm = E.rho (b nm)) (h2 : ∀ id ver y, id < M → E.val (v id) ver = some y → id < E0.nv ∧ E0.val id ver = some y) (h3 : ∀ k, k < w.heap.size → E.own k = none → E0.own k = none) : ∀ (x : SV) (u : Value), Den E w (renS b v x) u → Bd L M x → Den E0 w x u
  | .any, u, _, _ => .any u
  | .int k n, u, h, _ => by rw [renS] at h; cases h; exact .int k n
  | .bool x, u, h, _ => by rw [renS] at h; cases h; exact .bool x
  | .str s, u, h, _ => by rw [renS] at h; cases h; exact .str s
  | .ptr nm off, u, h, hb => by rw [renS] at h; simp only [Bd] at hb; cases h; obtain ⟨q1, q2⟩ := h1 nm hb; rw [← q2]; exact .ptr q1
  | .nilp, u, h, _ => by rw [renS] at h; cases h; exact .nilp
  | .nils _ _, u, h, _ => by rw [renS] at h; cases h; exact .nils ‹_›
  | .rptr sz f, u, h, hb => by
    rw [renS] at h; simp only [Bd] at hb
    cases h with
    | rptr A g hA ho hc h1' hd => exact .rptr A g hA (h3 _ hA ho) hc h1' (fun j hj => Den.unren h1 h2 h3 (f j) _ (hd j hj) (hb j hj))
  | .row n sz f, u, h, hb => by
    rw [renS] at h; simp only [Bd] at hb
    cases h with
    | row A cap g hA ho hn hc h1' hd => exact .row A cap g hA (h3 _ hA ho) hn hc h1' (fun i j hi hj => Den.unren h1 h2 h3 (f i j) _ (hd i j hi hj) (hb i j hi hj))
    | rowZ a cap => exact .rowZ a cap
  | .vec id ver, u, h, hb => by
    rw [renS] at h; simp only [Bd] at hb
    cases h with
    | vec hi hv => obtain ⟨q1, q2⟩ := h2 _ _ _ hb hv; exact .vec q1 q2
  | .vptr id ver sz i off, u, h, hb => by
    rw [renS] at h; simp only [Bd] at hb
    cases h with
    | vptr hi hv => obtain ⟨q1, q2⟩ := h2 _ _ _ hb hv; exact .vptr q1 q2
  | .func g caps, u, h, hb => by
    rw [renS] at h; simp only [Bd] at hb
    cases h with
    | func vs hs hd => exact .func vs (by rw [renL_eq] at hs; simpa using hs) (Den.unrenL h1 h2 h3 caps vs (fun i x u hx hu => hd i x u hx hu) hb)
  | .nilf, u, h, _ => by rw [renS] at h; cases h; exact .nilf
  | .iface t x, u, h, hb => by
    rw [renS] at h; simp only [Bd] at hb
    cases h with
    | iface hv => exact .iface (Den.unren h1 h2 h3 x _ hv hb)
  | .nili, u, h, _ => by rw [renS] at h; cases h; exact .nili
  | .agg l, u, h, hb => by
    rw [renS] at h; simp only [Bd] at hb
    cases h with
    | agg vs hs h1' hd => exact .agg vs (by rw [renL_eq] at hs; simpa using hs) h1' (Den.unrenL h1 h2 h3 l vs (fun i x u hx hu => hd i x u hx hu) hb)
  | .tup l, u, h, hb => by
    rw [renS] at h; simp only [Bd] at hb
    cases h with
    | tup vs hs hd => exact .tup vs (by rw [renL_eq] at hs; simpa using hs) (Den.unrenL h1 h2 h3 l vs (fun i x u hx hu => hd i x u hx hu) hb)
  | .yield nm, u, h, hb => by rw [renS] at h; simp only [Bd] at hb; cases h; obtain ⟨q1, q2⟩ := h1 nm hb; rw [← q2]; exact .yield q1
  | .meth g first, u, h, hb => by
    rw [renS] at h; simp only [Bd] at hb
    cases h with
    | meth vs hs hd => exact .meth vs (by rw [renL_eq] at hs; simpa using hs) (Den.unrenL h1 h2 h3 first vs (fun i x u hx hu => hd i x u hx hu) hb)
  | .vcut id ver sz lo n x, u, h, hb => by
    rw [renS] at h; simp only [Bd] at hb
    cases h with
    | vcut hi hv hn hc ha h0 hA hB => obtain ⟨q1, q2⟩ := h2 _ _ _ hb hv; exact .vcut q1 q2 hn hc ha h0 hA hB
  | .bsl nm off n, u, h, hb => by
    rw [renS] at h; simp only [Bd] at hb
    cases h with
    | bsl hn hc => obtain ⟨q1, q2⟩ := h1 nm hb; rw [← q2]; exact .bsl q1 hc
  | .mapp nm, u, h, hb => by rw [renS] at h; simp only [Bd] at hb; cases h; obtain ⟨q1, q2⟩ := h1 nm hb; rw [← q2]; exact .mapp q1
theorem Den.unrenL (h1 : ∀ nm, nm < L → nm < E0.nb ∧ E0.rho nm = E.rho (b nm)) (h2 : ∀ id ver y, id < M → E.val (v id) ver = some y → id < E0.nv ∧ E0.val id ver = some y) (h3 : ∀ k, k < w.heap.size → E.own k = none → E0.own k = none) : ∀ (l : List SV) (vs : Array Value), (∀ (i : Nat) (x : SV) (u : Value), (renL b v l)[i]? = some x → vs[i]? = some u → Den E w x u) → BdL L M l → ∀ (i : Nat) (x : SV) (u : Value), l[i]? = some x → vs[i]? = some u → Den E0 w x u
  | [], vs, _, _, i, x, u, hx, _ => by simp at hx
  | y :: l, vs, h, hb, 0, x, u, hx, hu => by
    simp only [BdL] at hb
    simp at hx; subst hx
    exact Den.unren h1 h2 h3 y u (h 0 _ u (by rw [renL]; rfl) hu) hb.1
  | y :: l, vs, h, hb, i + 1, x, u, hx, hu => by
    simp only [BdL] at hb
    exact Den.unrenL h1 h2 h3 l (vs.extract 1 vs.size) (fun j x u hx hu => h (j + 1) x u (by rw [renL]; simpa using hx) (by rw [Array.getElem?_extract] at hu; split at hu <;> simp_all [Nat.add_comm])) hb.2 i x u (by simpa using hx) (by
      rw [Array.getElem?_extract]
      have := (Array.getElem?_eq_some_iff.1 hu).1
      rw [if_pos (by omega), Nat.add_comm]
      exact hu)
end
end

def nmN : List Nat → Nat → Nat
  | [], _ => 0
  | x :: _, 0 => x
  | _ :: l, n + 1 => nmN l n
def ixN : List Nat → Nat → Option Nat
  | [], _ => none
  | x :: l, k => if x = k then some 0 else (ixN l k).map (· + 1)
theorem ixN_some : ∀ {l : List Nat} {k i : Nat}, ixN l k = some i → i < l.length ∧ nmN l i = k
  | [], k, i, h => by simp [ixN] at h
  | x :: l, k, i, h => by
    simp only [ixN] at h
    split at h
    · rename_i e; cases h; exact ⟨by simp, e⟩
    · rw [Option.map_eq_some_iff] at h
      obtain ⟨j, hj, rfl⟩ := h
      obtain ⟨h1, h2⟩ := ixN_some hj
      exact ⟨by simp; omega, h2⟩
theorem nmN_mem : ∀ {l : List Nat} {i : Nat}, i < l.length → nmN l i ∈ l
  | [], i, h => by simp at h
  | x :: l, 0, _ => by simp [nmN]
  | x :: l, i + 1, h => by simp only [nmN]; exact List.mem_cons_of_mem _ (nmN_mem (by simpa using h))
theorem ixN_notin : ∀ {l : List Nat} {k : Nat}, k ∉ l → ixN l k = none
  | [], k, _ => rfl
  | x :: l, k, h => by
    simp only [List.mem_cons, not_or] at h
    simp only [ixN]
    rw [if_neg (fun e => h.1 e.symm), ixN_notin h.2]
    rfl
theorem ixN_nm : ∀ {l : List Nat} {i : Nat}, l.Nodup → i < l.length → ixN l (nmN l i) = some i
  | [], i, _, h => by simp at h
  | x :: l, 0, _, _ => by simp [nmN, ixN]
  | x :: l, i + 1, hn, h => by
    simp only [List.nodup_cons] at hn
    have h' : i < l.length := by simpa using h
    have hm := nmN_mem h'
    show ixN (x :: l) (nmN l i) = some (i + 1)
    unfold ixN
    split
    · rename_i e; exact absurd (by rw [e]; exact hm) hn.1
    · rw [ixN_nm hn.2 h']; rfl
def putB (b v : Nat → Nat) : List Nat → List Blk → List Blk → List Blk
  | k :: bs, h, x :: l => putB b v bs (setB h k (renK b v x)) l
  | _, h, _ => h
def putV (b v : Nat → Nat) : List Nat → List Vc → List Vc → List Vc
  | k :: vs, h, x :: l => putV b v vs (setV h k (renC b v x)) l
  | _, h, _ => h
theorem lenB_put (b v : Nat → Nat) : ∀ (bs : List Nat) (h l : List Blk), lenB (putB b v bs h l) = lenB h
  | [], _, _ => by simp [putB]
  | _ :: _, _, [] => by simp [putB]
  | k :: bs, h, x :: l => by simp only [putB, lenB_put b v bs, lenB_set]
theorem lenV_put (b v : Nat → Nat) : ∀ (vs : List Nat) (h l : List Vc), lenV (putV b v vs h l) = lenV h
  | [], _, _ => by simp [putV]
  | _ :: _, _, [] => by simp [putV]
  | k :: vs, h, x :: l => by simp only [putV, lenV_put b v vs, lenV_set]
theorem getB_put (b v : Nat → Nat) : ∀ (bs : List Nat) (h l : List Blk), bs.Nodup → lenB l = bs.length → (∀ k, k ∈ bs → k < lenB h) → ∀ nm, getB (putB b v bs h l) nm = match ixN bs nm with | some i => renK b v (getB l i) | none => getB h nm
  | [], h, l, _, _, _, nm => by simp [putB, ixN]
  | _ :: _, _, [], _, hl, _, _ => by simp [lenB] at hl
  | k :: bs, h, x :: l, hn, hl, hlt, nm => by
    simp only [List.nodup_cons] at hn
    have ih := getB_put b v bs (setB h k (renK b v x)) l hn.2 (by simpa [lenB] using hl) (fun q hq => by rw [lenB_set]; exact hlt q (List.mem_cons_of_mem _ hq)) nm
    simp only [putB, ih, ixN]
    by_cases e : k = nm
    · subst e
      rw [ixN_notin hn.1, if_pos rfl]
      simp only [getB_set]
      rw [if_pos ⟨trivial, hlt k List.mem_cons_self⟩]
      simp [getB]
    · rw [if_neg e]
      cases hi : ixN bs nm with
      | none =>
        simp only [Option.map_none, getB_set]
        rw [if_neg (fun h => e h.1.symm)]
      | some i => simp [getB]
theorem getV_put (b v : Nat → Nat) : ∀ (vs : List Nat) (h l : List Vc), vs.Nodup → lenV l = vs.length → (∀ k, k ∈ vs → k < lenV h) → ∀ nm, getV (putV b v vs h l) nm = match ixN vs nm with | some i => renC b v (getV l i) | none => getV h nm
  | [], h, l, _, _, _, nm => by simp [putV, ixN]
  | _ :: _, _, [], _, hl, _, _ => by simp [lenV] at hl
  | k :: vs, h, x :: l, hn, hl, hlt, nm => by
    simp only [List.nodup_cons] at hn
    have ih := getV_put b v vs (setV h k (renC b v x)) l hn.2 (by simpa [lenV] using hl) (fun q hq => by rw [lenV_set]; exact hlt q (List.mem_cons_of_mem _ hq)) nm
    simp only [putV, ih, ixN]
    by_cases e : k = nm
    · subst e
      rw [ixN_notin hn.1, if_pos rfl]
      simp only [getV_set]
      rw [if_pos ⟨trivial, hlt k List.mem_cons_self⟩]
      simp [getV]
    · rw [if_neg e]
      cases hi : ixN vs nm with
      | none =>
        simp only [Option.map_none, getV_set]
        rw [if_neg (fun h => e h.1.symm)]
      | some i => simp [getV]
/-- The small heap is what lies under the names. -/
def matB (b v : Nat → Nat) : List Nat → List Blk → List Blk → Prop
  | k :: bs, h, x :: l => getB h k = renK b v x ∧ matB b v bs h l
  | [], _, [] => True
  | _, _, _ => False
def matV (b v : Nat → Nat) : List Nat → List Vc → List Vc → Prop
  | k :: vs, h, x :: l => getV h k = renC b v x ∧ matV b v vs h l
  | [], _, [] => True
  | _, _, _ => False
theorem matB_get {b v : Nat → Nat} : ∀ {bs : List Nat} {h l : List Blk}, matB b v bs h l → lenB l = bs.length ∧ ∀ i, i < bs.length → getB h (nmN bs i) = renK b v (getB l i)
  | [], _, [], _ => ⟨rfl, fun i hi => by simp at hi⟩
  | [], _, _ :: _, h => h.elim
  | _ :: _, _, [], h => h.elim
  | k :: bs, h, x :: l, hm => by
    obtain ⟨h1, h2⟩ := matB_get hm.2
    refine ⟨by simp [lenB, h1], fun i hi => ?_⟩
    cases i with
    | zero => exact hm.1
    | succ i => exact h2 i (by simpa using hi)
theorem matV_get {b v : Nat → Nat} : ∀ {vs : List Nat} {h l : List Vc}, matV b v vs h l → lenV l = vs.length ∧ ∀ i, i < vs.length → getV h (nmN vs i) = renC b v (getV l i)
  | [], _, [], _ => ⟨rfl, fun i hi => by simp at hi⟩
  | [], _, _ :: _, h => h.elim
  | _ :: _, _, [], h => h.elim
  | k :: vs, h, x :: l, hm => by
    obtain ⟨h1, h2⟩ := matV_get hm.2
    refine ⟨by simp [lenV, h1], fun i hi => ?_⟩
    cases i with
    | zero => exact hm.1
    | succ i => exact h2 i (by simpa using hi)
def bdO (L M : Nat) : Out → Prop
  | .ret x => Bd L M x
  | .pan x => Bd L M x
  | _ => True
def tagS (bs vs : List Nat) : Option Tag → Option Tag
  | some (.blk m) => match ixN bs m with
    | some i => some (.blk i)
    | none => some .other
  | some (.vec m) => match ixN vs m with
    | some i => some (.vec i)
    | none => some .other
  | some .other => some .other
  | none => none
def Env.small (E : Env) (bs vs : List Nat) : Env :=
  { nb := bs.length, rho := fun i => E.rho (nmN bs i), nv := vs.length, val := fun i ver => E.val (nmN vs i) ver, own := fun k => tagS bs vs (E.own k) }
def tagG (bs vs : List Nat) (old : Option Tag) (s : Option Tag) : Option Tag → Option Tag
  | some (.blk i) => if i < bs.length then some (.blk (nmN bs i)) else some .other
  | some (.vec i) => if i < vs.length then some (.vec (nmN vs i)) else some .other
  | some .other => match s with
    | some .other => old
    | _ => some .other
  | none => none
def Env.great (E E0 : Env) (bs vs : List Nat) : Env :=
  { nb := E.nb, rho := E.rho, nv := E.nv, val := fun id ver => match ixN vs id with | some i => E0.val i ver | none => E.val id ver, own := fun k => tagG bs vs (E.own k) (tagS bs vs (E.own k)) (E0.own k) }

theorem calls_ren {P : Program} {g : Nat} {args0 : List SV} {h0 h : HS} {K0 : Out → HS → Prop} (bs vs : List Nat) (hc : CallsS P g args0 h0 K0) (nb : bs.Nodup) (nv : vs.Nodup)
    (ba : BdL bs.length vs.length args0) (bB : bdB bs.length vs.length h0.blks) (bV : bdV bs.length vs.length h0.vecs)
    (hB : matB (nmN bs) (nmN vs) bs h.blks h0.blks) (hV : matV (nmN bs) (nmN vs) vs h.vecs h0.vecs) (hlB : ∀ k, k ∈ bs → k < lenB h.blks) (hlV : ∀ k, k ∈ vs → k < lenV h.vecs)
    (hK : ∀ o h', K0 o h' → lenB h'.blks = bs.length ∧ lenV h'.vecs = vs.length ∧ bdB bs.length vs.length h'.blks ∧ bdV bs.length vs.length h'.vecs ∧ bdO bs.length vs.length o) :
    CallsS P g (renL (nmN bs) (nmN vs) args0) h (fun o h' => ∃ o0 h0', K0 o0 h0' ∧ o = renO (nmN bs) (nmN vs) o0 ∧ h' = ⟨putB (nmN bs) (nmN vs) bs h.blks h0'.blks, putV (nmN bs) (nmN vs) vs h.vecs h0'.vecs⟩) := by
  intro E w vals hr hd
  obtain ⟨lB, gB⟩ := matB_get hB
  obtain ⟨lV, gV⟩ := matV_get hV
  have hnmb : ∀ i, i < bs.length → nmN bs i < E.nb := fun i hi => by rw [hr.nb]; exact hlB _ (nmN_mem hi)
  have hnmv : ∀ i, i < vs.length → nmN vs i < E.nv := fun i hi => by rw [hr.nv]; exact hlV _ (nmN_mem hi)
  have un := fun (x : SV) (u : Value) (hx : Den E w (renS (nmN bs) (nmN vs) x) u) (hb : Bd bs.length vs.length x) =>
    Den.unren (E := E) (E0 := E.small bs vs) (w := w) (b := nmN bs) (v := nmN vs) (L := bs.length) (M := vs.length) (fun nm hn => ⟨hn, rfl⟩) (fun id ver y hi hy => ⟨hi, hy⟩) (fun k _ hk => by simp [Env.small, hk, tagS]) x u hx hb
  have unL := fun (l : List SV) (us : Array Value) (hx : DenA E w (renL (nmN bs) (nmN vs) l) us) (hb : BdL bs.length vs.length l) => (show DenA (E.small bs vs) w l us from
    ⟨by rw [hx.1, renL_eq]; simp, Den.unrenL (E := E) (E0 := E.small bs vs) (w := w) (b := nmN bs) (v := nmN vs) (L := bs.length) (M := vs.length) (fun nm hn => ⟨hn, rfl⟩) (fun id ver y hi hy => ⟨hi, hy⟩) (fun k _ hk => by simp [Env.small, hk, tagS]) l us hx.2 hb⟩)
  have ownB : ∀ i, i < bs.length → ∀ k, E.own k = some (.blk (nmN bs i)) → (E.small bs vs).own k = some (.blk i) := fun i hi k hk => by simp [Env.small, hk, tagS, ixN_nm nb hi]
  have ownV : ∀ i, i < vs.length → ∀ k, E.own k = some (.vec (nmN vs i)) → (E.small bs vs).own k = some (.vec i) := fun i hi k hk => by simp [Env.small, hk, tagS, ixN_nm nv hi]
  have hr0 : RelH (E.small bs vs) h0 w := by
    refine ⟨by simp [Env.small, lB], by simp [Env.small, lV], ?_, ?_, ?_, ?_, ?_⟩
    · intro nm ty c hg
      have hlt : nm < bs.length := by rw [← lB]; exact getB_lt hg
      have hg' := gB nm hlt
      rw [hg] at hg'
      obtain ⟨cs, a1, a2, a3, a4⟩ := hr.blk _ _ _ hg'
      exact ⟨cs, a1, unL c cs a2 (bdB_get bB hg), a3, ownB nm hlt _ a4⟩
    · intro id ver ty sz n f hg
      have hlt : id < vs.length := by rw [← lV]; exact getV_lt hg
      have hg' := gV id hlt
      rw [hg] at hg'
      obtain ⟨c0, ⟨a, cap, k1, k2⟩, k3⟩ := hr.vec _ _ _ _ _ _ hg'
      refine ⟨c0, ⟨a, cap, k1, ?_⟩, k3⟩
      rcases k2 with hk | ⟨g1, o, cur, q1, q2, q3, q4, q5, q6, q7, q8⟩
      · exact .inl hk
      · exact .inr ⟨g1, o, cur, q1, q2, q3, q4, q5, ownV id hlt _ q6, q7, fun i j u hi hj hu => un _ _ (q8 i j u hi hj hu) (bdV_get bV hg i j hi hj)⟩
    · intro k t hk
      simp only [Env.small] at hk
      cases ho : E.own k with
      | none => rw [ho] at hk; simp [tagS] at hk
      | some t' => exact hr.own k t' ho
    · intro nm st pend fid t params assign body hg
      have hlt : nm < bs.length := by rw [← lB]; exact getB_ltL hg
      have hg' := gB nm hlt
      rw [hg] at hg'
      obtain ⟨tmps, db, a1, a2, a3⟩ := hr.lp _ _ _ _ _ _ _ _ hg'
      exact ⟨tmps, db, a1, unL t tmps a2 (bdB_getL bB hg), ownB nm hlt _ a3⟩
    · intro nm m hg
      have hlt : nm < bs.length := by rw [← lB]; exact getB_ltM hg
      have hg' := gB nm hlt
      rw [hg] at hg'
      obtain ⟨a2, a3⟩ := hr.mp _ _ hg'
      have hi := bdB_getM bB hg
      refine ⟨ownB nm hlt _ a2, ?_⟩
      rw [hi] at a3 ⊢
      exact a3
  refine (hc (E.small bs vs) w vals hr0 (unL args0 vals hd ba)).mono ?_
  rintro e w' ⟨o, h', E0', hk, hr', hx, hout⟩
  obtain ⟨k1, k2, k3, k4, k5⟩ := hK o h' hk
  have rho' : ∀ i, i < bs.length → E0'.rho i = E.rho (nmN bs i) := fun i hi => hx.rho i hi
  have hxG : Ext E w (E.great E0' bs vs) w' := by
    refine ⟨hx.os, hx.tape, hx.output, hx.size, Nat.le_refl _, Nat.le_refl _, fun _ _ => rfl, fun id ver x hi hv => ?_, fun k hk ho => ?_, fun k ho => ?_⟩
    · simp only [Env.great]
      split
      · rename_i i hi'
        obtain ⟨q1, q2⟩ := ixN_some hi'
        exact hx.val i ver x q1 (by simp only [Env.small, q2]; exact hv)
      · exact hv
    · obtain ⟨q1, q2⟩ := hx.keep k hk (by simp [Env.small, ho, tagS])
      exact ⟨by simp [Env.great, q1, tagG], q2⟩
    · obtain ⟨q1, q2⟩ := hx.oth k (by simp [Env.small, ho, tagS])
      exact ⟨by simp [Env.great, q1, tagG, ho, tagS], q2⟩
  have up := fun (x : SV) (u : Value) (hd : Den E0' w' x u) (hb : Bd bs.length vs.length x) =>
    Den.ren (E := E.great E0' bs vs) (E0 := E0') (b := nmN bs) (v := nmN vs) hd hb (fun nm hn _ => ⟨hnmb nm hn, (rho' nm hn).symm⟩) (fun id ver y hi _ hy => ⟨hnmv id hi, by simp only [Env.great, ixN_nm nv hi]; exact hy⟩) (fun k _ hk => by simp [Env.great, hk, tagG])
  have upL := fun (l : List SV) (us : Array Value) (hd : DenA E0' w' l us) (hb : BdL bs.length vs.length l) => (show DenA (E.great E0' bs vs) w' (renL (nmN bs) (nmN vs) l) us from
    ⟨by rw [hd.1, renL_eq]; simp, fun i x u hx hu => by
      rw [renL_eq, List.getElem?_map, Option.map_eq_some_iff] at hx
      obtain ⟨y, hy, rfl⟩ := hx
      exact up y u (hd.2 i y u hy hu) (BdL_get hb i y hy)⟩)
  have gown : ∀ i, i < bs.length → E0'.own (E0'.rho i) = some (.blk i) → (E.great E0' bs vs).own (E.rho (nmN bs i)) = some (.blk (nmN bs i)) := fun i hi ho => by
    rw [rho' i hi] at ho
    simp [Env.great, ho, tagG, hi]
  -- what is not handed over stays
  have foreign : ∀ k t, E.own k = some t → (match t with | .blk m => ixN bs m = none | .vec m => ixN vs m = none | .other => True) → w'.heap[k]? = w.heap[k]? ∧ (E.great E0' bs vs).own k = E.own k := fun k t ho ht => by
    have hs : (E.small bs vs).own k = some .other := by
      simp only [Env.small, ho]
      cases t with
      | blk m => simp only at ht; simp [tagS, ht]
      | vec m => simp only at ht; simp [tagS, ht]
      | other => rfl
    obtain ⟨q1, q2⟩ := hx.oth k hs
    have hs' : tagS bs vs (E.own k) = some .other := hs
    exact ⟨q2, by simp [Env.great, q1, tagG, hs']⟩
  refine ⟨renO (nmN bs) (nmN vs) o, _, E.great E0' bs vs, ⟨o, h', hk, rfl, rfl⟩, ?_, hxG, ?_⟩
  · have gBp := getB_put (nmN bs) (nmN vs) bs h.blks h'.blks nb k1 hlB
    have gVp := getV_put (nmN bs) (nmN vs) vs h.vecs h'.vecs nv k2 hlV
    refine ⟨by rw [lenB_put]; exact hr.nb, by rw [lenV_put]; exact hr.nv, ?_, ?_, ?_, ?_, ?_⟩
    · intro nm ty c hg
      rw [gBp] at hg
      split at hg
      · rename_i i hi
        obtain ⟨q1, q2⟩ := ixN_some hi
        subst q2
        cases hb : getB h'.blks i with
        | live ty' c' =>
          rw [hb] at hg
          simp only [renK, Blk.live.injEq] at hg
          obtain ⟨rfl, rfl⟩ := hg
          obtain ⟨cs, a1, a2, a3, a4⟩ := hr'.blk _ _ _ hb
          exact ⟨cs, by rw [rho' i q1] at a1; exact a1, upL c' cs a2 (bdB_get k3 hb), a3, gown i q1 a4⟩
        | dead => rw [hb] at hg; simp [renK] at hg
        | loop => rw [hb] at hg; simp [renK] at hg
        | mp => rw [hb] at hg; simp [renK] at hg
      · rename_i hn
        obtain ⟨cs, a1, a2, a3, a4⟩ := hr.blk _ _ _ hg
        obtain ⟨f1, f2⟩ := foreign _ _ a4 hn
        exact ⟨cs, f1.trans a1, a2.ext hxG, a3, f2.trans a4⟩
    · intro id ver ty sz n f hg
      rw [gVp] at hg
      split at hg
      · rename_i i hi
        obtain ⟨q1, q2⟩ := ixN_some hi
        subst q2
        cases hb : getV h'.vecs i with
        | live ver' ty' sz' n' f' =>
          rw [hb] at hg
          simp only [renC, Vc.live.injEq] at hg
          obtain ⟨rfl, rfl, rfl, rfl, rfl⟩ := hg
          obtain ⟨c0, ⟨a, cap, l1, l2⟩, l3⟩ := hr'.vec _ _ _ _ _ _ hb
          have hval : ∀ ver, (E.great E0' bs vs).val (nmN vs i) ver = E0'.val i ver := fun ver => by simp only [Env.great, ixN_nm nv q1]
          refine ⟨c0, ⟨a, cap, by rw [hval]; exact l1, ?_⟩, fun v' hv' => by rw [hval]; exact l3 v' hv'⟩
          rcases l2 with hk | ⟨g1, o, cur, p1, p2, p3, p4, p5, p6, p7, p8⟩
          · exact .inl hk
          · exact .inr ⟨g1, o, cur, p1, p2, p3, p4, p5, by simp [Env.great, p6, tagG, q1], p7, fun a j u hi hj hu => up _ _ (p8 a j u hi hj hu) (bdV_get k4 hb a j hi hj)⟩
        | dead => rw [hb] at hg; simp [renC] at hg
      · rename_i hn
        obtain ⟨c0, ⟨a, cap, l1, l2⟩, l3⟩ := hr.vec _ _ _ _ _ _ hg
        have hval : ∀ ver, (E.great E0' bs vs).val id ver = E.val id ver := fun ver => by simp only [Env.great, hn]
        exact ⟨c0, ⟨a, cap, by rw [hval]; exact l1, l2.ext hxG (fun g hg => foreign g _ hg hn)⟩, fun v' hv' => by rw [hval]; exact l3 v' hv'⟩
    · intro k t hk
      rcases Nat.lt_or_ge k w'.heap.size with h | h
      · exact h
      · exfalso
        have n0 : E0'.own k = none := by
          cases ho : E0'.own k with
          | none => rfl
          | some t' => have := hr'.own k t' ho; omega
        simp [Env.great, n0, tagG] at hk
    · intro nm st pend fid t params assign body hg
      rw [gBp] at hg
      split at hg
      · rename_i i hi
        obtain ⟨q1, q2⟩ := ixN_some hi
        subst q2
        cases hb : getB h'.blks i with
        | loop st' pend' fid' t' params' assign' body' =>
          rw [hb] at hg
          simp only [renK, Blk.loop.injEq] at hg
          obtain ⟨rfl, rfl, rfl, rfl, rfl, rfl, rfl⟩ := hg
          obtain ⟨tmps, db, a1, a2, a3⟩ := hr'.lp _ _ _ _ _ _ _ _ hb
          exact ⟨tmps, db, by rw [rho' i q1] at a1; exact a1, upL t' tmps a2 (bdB_getL k3 hb), gown i q1 a3⟩
        | dead => rw [hb] at hg; simp [renK] at hg
        | live => rw [hb] at hg; simp [renK] at hg
        | mp => rw [hb] at hg; simp [renK] at hg
      · rename_i hn
        exact (hr.lp _ _ _ _ _ _ _ _ hg).ext hxG (fun ho => ⟨rfl, foreign _ _ ho hn⟩)
    · intro nm m hg
      rw [gBp] at hg
      split at hg
      · rename_i i hi
        obtain ⟨q1, q2⟩ := ixN_some hi
        subst q2
        cases hb : getB h'.blks i with
        | mp m' =>
          rw [hb] at hg
          simp only [renK, Blk.mp.injEq] at hg
          subst hg
          obtain ⟨a2, a3⟩ := hr'.mp _ _ hb
          have hi := bdB_getM k3 hb
          rw [hi] at a3
          obtain ⟨es, a1, a4⟩ := a3
          refine ⟨gown i q1 a2, ?_⟩
          rw [hi]
          exact ⟨es, by rw [rho' i q1] at a1; exact a1, a4⟩
        | dead => rw [hb] at hg; simp [renK] at hg
        | live => rw [hb] at hg; simp [renK] at hg
        | loop => rw [hb] at hg; simp [renK] at hg
      · rename_i hn
        exact (hr.mp _ _ hg).ext hxG (fun ho => ⟨rfl, foreign _ _ ho hn⟩)
  · cases o with
    | ret x =>
      cases e with
      | returned val => exact up x val hout k5
      | panicked _ => exact hout.elim
      | outgrown => exact hout.elim
    | pan x =>
      cases e with
      | panicked chain => obtain ⟨val, h1, h2⟩ := hout; exact ⟨val, h1, up x val h2 k5⟩
      | returned _ => exact hout.elim
      | outgrown => exact hout.elim
    | fin p ts => cases e <;> exact hout.elim
    | stop k t => cases e <;> exact hout.elim
    | rnd v => cases e <;> exact hout.elim

end Go.Eng
end

/- The seat's context. -/
section
namespace Go.Eng
set_option maxRecDepth 100000
open Go Go.RowKit Go.Proofs
theorem den_row_congr {E : Env} {w : World} {n sz : Nat} {f f' : Nat → Nat → SV} (h : ∀ i j, i < n → j < sz → f i j = f' i j) {v : Value} (hd : Den E w (.row n sz f) v) : Den E w (.row n sz f') v := by
  cases hd with
  | row A cap g hA ho hn hc h1 hd => exact .row A cap g hA ho hn hc h1 (fun i j hi hj => by rw [← h i j hi hj]; exact hd i j hi hj)
  | rowZ a cap => exact .rowZ a cap
theorem SameD.int {n sz : Nat} {f : Nat → Nat → SV} (h : IntR n sz f) : SameD (.row n sz f) (.row n sz fun i j => .int .i64 (iv (f i j))) := ⟨fun _ _ _ hd => den_row_congr h hd⟩
def rowF (k : IntKind) (a : Nat → Nat → Int) : Nat → Nat → SV := fun i j => .int k (a i j)
theorem rowF_eq (k : IntKind) (a : Nat → Nat → Int) : rowF k a = fun i j => .int k (a i j) := rfl
theorem SameD.intK {k : IntKind} {n sz : Nat} {f : Nat → Nat → SV} (h : IntK k n sz f) : SameD (.row n sz f) (.row n sz fun i j => .int k (iv (f i j))) := ⟨fun _ _ _ hd => den_row_congr h hd⟩
def SameL : List SV → List SV → Prop
  | [], [] => True
  | x :: l, y :: k => SameD x y ∧ SameL l k
  | _, _ => False
theorem SameL.den {E : Env} {w : World} : ∀ {l k : List SV}, SameL l k → l.length = k.length ∧ ∀ (i : Nat) (y : SV), k[i]? = some y → ∃ x, l[i]? = some x ∧ ∀ v, Den E w x v → Den E w y v
  | [], [], _ => ⟨rfl, fun i y h => by simp at h⟩
  | x :: l, y :: k, h => by
    obtain ⟨h1, h2⟩ := SameL.den (E := E) (w := w) h.2
    refine ⟨by simp [h1], fun i z hz => ?_⟩
    cases i with
    | zero => simp at hz; subst hz; exact ⟨x, rfl, fun v hv => h.1.out _ _ _ hv⟩
    | succ i => exact h2 i z (by simpa using hz)
  | [], _ :: _, h => h.elim
  | _ :: _, [], h => h.elim
theorem calls_congr {P : Program} {g : Nat} {args args' : List SV} {h : HS} {K : Out → HS → Prop} (hs : SameL args args') (hc : CallsS P g args' h K) : CallsS P g args h K := fun E w vals hr hd => by
  obtain ⟨h1, h2⟩ := hs.den (E := E) (w := w)
  exact hc E w vals hr ⟨by rw [hd.1, h1], fun i y u hy hu => by
    obtain ⟨x, hx, hv⟩ := h2 i y hy
    exact hv u (hd.2 i x u hx hu)⟩
abbrev BaseF : Type := List SV → Option (Prop × SV)
def lookP : List (Nat × Nat × Plan) → Nat → Nat → Option Plan
  | [], _, _ => none
  | (a, b, p) :: l, g, id => if g = a then if id = b then some p else lookP l g id else lookP l g id
def lookO : List (Nat × Nat × BaseF) → Nat → Option (Nat × BaseF)
  | [], _ => none
  | (k, x) :: l, g => if g = k then some x else lookO l g
def mapS : Option BaseF → Option (Nat × BaseF) → Option Spec
  | some f, _ => some (lendS f)
  | none, some (ty, f) => some (lendO ty f)
  | none, none => none
noncomputable def cx (hof : List Nat) (OL : List (Nat × Nat × BaseF)) (GL : List (Nat × BaseF)) (PL : List (Nat × Nat × Plan)) (D : Option (List Nat)) : Ctx :=
  ctx0 Try.prog tabL (memN hof) (fun g => mapS (lookG GL g) (lookO OL g)) (lookP PL) D
section
variable (hof : List Nat) (OL : List (Nat × Nat × BaseF)) (GL : List (Nat × BaseF)) (PL : List (Nat × Nat × Plan)) (D : Option (List Nat))
theorem cx_P : (cx hof OL GL PL D).P = Try.prog := rfl
theorem cx_T : (cx hof OL GL PL D).T = tab := rfl
theorem cx_F : (cx hof OL GL PL D).F = entB Try.prog := rfl
theorem cx_FN (g : Nat) : (cx hof OL GL PL D).FN g = Try.prog.funcs[g]? := rfl
theorem cx_inl (g : Nat) : (cx hof OL GL PL D).inl g = !memN hof g := rfl
theorem cx_G (g : Nat) : (cx hof OL GL PL D).G g = mapS (lookG GL g) (lookO OL g) := rfl
theorem cx_plan (g id : Nat) : (cx hof OL GL PL D).plan g id = lookP PL g id := rfl
theorem cx_D : (cx hof OL GL PL D).D = D := rfl
theorem cx_rs : (cx hof OL GL PL D).rs = false := rfl
theorem cx_off : (cx hof OL GL PL D).off = cx hof OL GL PL none := rfl
end
theorem lookG_mem : ∀ {l : List (Nat × BaseF)} {g : Nat} {f : BaseF}, lookG l g = some f → (g, f) ∈ l
  | [], g, f, h => by simp [lookG] at h
  | (k, x) :: l, g, f, h => by
    simp only [lookG] at h
    split at h
    · rename_i e; cases h; subst e; simp
    · exact List.mem_cons_of_mem _ (lookG_mem h)
theorem lookO_mem : ∀ {l : List (Nat × Nat × BaseF)} {g : Nat} {x : Nat × BaseF}, lookO l g = some x → (g, x) ∈ l
  | [], g, f, h => by simp [lookO] at h
  | (k, x) :: l, g, f, h => by
    simp only [lookO] at h
    split at h
    · rename_i e; cases h; subst e; simp
    · exact List.mem_cons_of_mem _ (lookO_mem h)
/-- Every contract of a list holds. -/
def AllB : List (Nat × BaseF) → Prop
  | [] => True
  | (g, b) :: l => Base Try.prog g b ∧ AllB l
def AllO : List (Nat × Nat × BaseF) → Prop
  | [] => True
  | (g, ty, b) :: l => BaseO Try.prog g ty b ∧ AllO l
theorem AllB_mem : ∀ {l : List (Nat × BaseF)}, AllB l → ∀ x ∈ l, Base Try.prog x.1 x.2
  | [], _, x, hx => by simp at hx
  | (g, b) :: l, h, x, hx => by
    rcases List.mem_cons.1 hx with rfl | hx
    · exact h.1
    · exact AllB_mem h.2 x hx
theorem AllO_mem : ∀ {l : List (Nat × Nat × BaseF)}, AllO l → ∀ x ∈ l, BaseO Try.prog x.1 x.2.1 x.2.2
  | [], _, x, hx => by simp at hx
  | (g, b) :: l, h, x, hx => by
    rcases List.mem_cons.1 hx with rfl | hx
    · exact h.1
    · exact AllO_mem h.2 x hx
theorem cx_ok {hof : List Nat} {OL : List (Nat × Nat × BaseF)} {GL : List (Nat × BaseF)} {PL : List (Nat × Nat × Plan)} {D : Option (List Nat)} (hO : AllO OL) (h : AllB GL) : CtxOk (cx hof OL GL PL D) :=
  ctx0_ok tab_chk _ _ _ _ (fun g f hf args h0 p v h1 hq hp => by
    cases hl : lookG GL g with
    | none =>
      cases hm : lookO OL g with
      | none => rw [hl, hm] at hf; cases hf
      | some x =>
        rw [hl, hm] at hf
        cases hf
        exact lendO_ok (AllO_mem hO _ (lookO_mem hm)) args h0 p v h1 hq hp
    | some b =>
      rw [hl] at hf
      cases hf
      exact lend_ok (AllB_mem h _ (lookG_mem hl)) args h0 p v h1 hq hp) (by kernel_rfl)
theorem calls_mono {P : Program} {g : Nat} {args : List SV} {h : HS} {K K' : Out → HS → Prop} (hk : ∀ o h', K o h' → K' o h') (hc : CallsS P g args h K) : CallsS P g args h K' := fun E w vals hr hd =>
  (hc E w vals hr hd).mono fun _ _ ⟨o, h', E', q, r⟩ => ⟨o, h', E', hk o h' q, r⟩
theorem SameD.tup {l k : List SV} (h : SameL l k) : SameD (.tup l) (.tup k) := ⟨fun E w v hd => by
  cases hd
  rename_i vs hs hd
  obtain ⟨h1, h2⟩ := h.den (E := E) (w := w)
  exact .tup vs (by rw [← h1]; exact hs) (fun i y u hy hu => by
    obtain ⟨x, hx, hv⟩ := h2 i y hy
    exact hv u (hd i x u hx hu))⟩
theorem SameD.agg {l k : List SV} (h : SameL l k) : SameD (.agg l) (.agg k) := ⟨fun E w v hd => by
  obtain ⟨h1, h2⟩ := h.den (E := E) (w := w)
  match v, hd with
  | _, .agg vs hs h1' hd => exact .agg vs (by rw [← h1]; exact hs) h1' (fun i y u hy hu => by
      obtain ⟨x, hx, hv⟩ := h2 i y hy
      exact hv u (hd i x u hx hu))⟩
theorem SameD.rptr {sz : Nat} {f g : Nat → SV} (h : ∀ j, j < sz → SameD (f j) (g j)) : SameD (.rptr sz f) (.rptr sz g) := ⟨fun E w v hd => by
  match v, hd with
  | _, .rptr A gg hA ho hc h1 hd => exact .rptr A gg hA ho hc h1 (fun j hj => (h j hj).1 E w _ (hd j hj))⟩
/-- A row of bools. -/
def bvf (f : Nat → Nat → SV) : Nat → Bool := fun i => match f i 0 with
  | .bool b => b
  | _ => false
theorem bvf_lit (p : Nat → Bool) : bvf (fun i _ => .bool (p i)) = p := rfl
def BoolR (n : Nat) (f : Nat → Nat → SV) : Prop := ∀ i j, i < n → j < 1 → f i j = .bool (bvf f i)
theorem boolR_lit (n : Nat) (p : Nat → Bool) : BoolR n (fun i _ => .bool (p i)) = True := eq_true fun _ _ _ _ => rfl
/-- A contract out of a run over an empty heap. -/
theorem base_of {C : Ctx} (hC : CtxOk C) (hD : C.off = C) {g : Nat} {fn : Func} {c : Code} (hf : C.FN g = some fn) (hb : fn.body = some c) {args args' : List SV} {v : SV} (n : Nat) (h1 : BdL 0 0 args) (hs : SameL args args')
    (hrun : run C n g [.code c] (catS args' (anys (fn.ntmps - lenS args'))) [] ⟨[], []⟩ (fun o h' => ∃ u, o = .ret u ∧ Fl u ∧ u = v)) :
    BdL 0 0 args ∧ CallsS C.P g args ⟨[], []⟩ (fun o h' => ∃ u, o = .ret u ∧ ((Fl u ∧ SameD u v) ∨ FzT h' u v)) :=
  ⟨h1, calls_mono (fun _ _ ⟨u, e1, e2, e3⟩ => ⟨u, e1, .inl ⟨e2, by rw [e3]; exact SameD.rfl' _⟩⟩) (calls_congr hs (calls_of_run hC hD hf hb n hrun))⟩
theorem baseF_of {C : Ctx} (hC : CtxOk C) (hD : C.off = C) {g : Nat} {fn : Func} {c : Code} (hf : C.FN g = some fn) (hb : fn.body = some c) {args args' : List SV} {v : SV} (n : Nat) (h1 : BdL 0 0 args) (hs : SameL args args')
    (hrun : run C n g [.code c] (catS args' (anys (fn.ntmps - lenS args'))) [] ⟨[], []⟩ (fun o h' => ∃ u, o = .ret u ∧ FzT h' u v)) :
    BdL 0 0 args ∧ CallsS C.P g args ⟨[], []⟩ (fun o h' => ∃ u, o = .ret u ∧ ((Fl u ∧ SameD u v) ∨ FzT h' u v)) :=
  ⟨h1, calls_mono (fun _ _ ⟨u, e1, e2⟩ => ⟨u, e1, .inr e2⟩) (calls_congr hs (calls_of_run hC hD hf hb n hrun))⟩
theorem retQ (x v : SV) : (∃ u, Out.ret x = Out.ret u ∧ Fl u ∧ u = v) = (Fl x ∧ x = v) :=
  propext ⟨fun ⟨u, e, h1, h2⟩ => by cases e; exact ⟨h1, h2⟩, fun ⟨h1, h2⟩ => ⟨x, rfl, h1, h2⟩⟩
theorem retF (h : HS) (x v : SV) : (∃ u, Out.ret x = Out.ret u ∧ FzT h u v) = FzT h x v :=
  propext ⟨fun ⟨u, e, h1⟩ => by cases e; exact h1, fun h1 => ⟨x, rfl, h1⟩⟩
theorem retP (x : SV) (P : SV → Prop) : (∃ u, Out.ret x = Out.ret u ∧ P u) = P x :=
  propext ⟨fun ⟨u, e, h1⟩ => by cases e; exact h1, fun h1 => ⟨x, rfl, h1⟩⟩
theorem retO (h : HS) (ty : TypeId) (x v : SV) : (∃ u, Out.ret x = Out.ret u ∧ OwnT h ty u v) = OwnT h ty x v :=
  propext ⟨fun ⟨u, e, h1⟩ => by cases e; exact h1, fun h1 => ⟨x, rfl, h1⟩⟩
theorem frzF_ite (k : Nat) (h : HS) (c : Prop) [Decidable c] (x y : SV) : frzF k h (if c then x else y) = if c then frzF k h x else frzF k h y := by split <;> rfl
end Go.Eng
end

/- Contracts of functions that are handed nothing of the caller's own, and whose results are foreign to all. -/
section
namespace Go.Eng
set_option maxRecDepth 100000
open Go Go.RowKit Go.Proofs
/-- A result all of whose own slices are given away. -/
def frzT (h : HS) : SV → SV
  | .tup l => .tup (frzA h l)
  | x => frzF 4 h x
def NB (P : Program) (g : Nat) (base : BaseF) : Prop :=
  ∀ args p v, base args = some (p, v) → p → BdL 0 0 args ∧ Bd 0 0 v ∧ CallsS P g args ⟨[], []⟩ (fun o _ => o = .ret v)
def bareR (r : Option (Prop × SV)) (h : HS) : Option (Prop × SV × HS) := match r with
  | some (p, v) => some (p, v, h)
  | none => none
def dnl1 (x : SV) : SV := match isN x with
  | some (_, sz) => .row 0 sz (fun _ _ => .any)
  | none => x
/-- Nil slices, said as rows. -/
def dnl : SV → SV
  | .agg l => .agg (mapF dnl1 l)
  | x => dnl1 x
theorem dnl1_same (x : SV) : SameD x (dnl1 x) := by
  unfold dnl1
  split
  · rename_i e sz hx
    obtain rfl : x = .nils e sz := by cases x <;> simp [isN] at hx; obtain ⟨rfl, rfl⟩ := hx; rfl
    exact ⟨fun E w v hd => by cases hd; exact .rowZ _ _⟩
  · exact SameD.rfl' _
theorem SameL.map {F : SV → SV} (hF : ∀ x, SameD x (F x)) : ∀ l, SameL l (mapF F l)
  | [] => trivial
  | x :: l => ⟨hF x, SameL.map hF l⟩
theorem dnl_same (x : SV) : SameD x (dnl x) := by
  unfold dnl
  split
  · exact SameD.agg (SameL.map dnl1_same _)
  · exact dnl1_same _
def bareS (base : BaseF) : Spec := fun args h => bareR (base (mapF dnl args)) h
theorem bareS_ok {P : Program} {g : Nat} {base : BaseF} (hb : NB P g base) : ∀ args h p v h1, bareS base args h = some (p, v, h1) → p → CallsS P g args h fun o h' => o = .ret v ∧ h' = h1 := by
  intro args h0 p v h1 hq hp
  unfold bareS bareR at hq
  split at hq
  rotate_left
  · cases hq
  rename_i p' v' hbase
  cases hq
  obtain ⟨b1, b2, b3⟩ := hb _ _ _ hbase hp
  refine calls_congr (SameL.map dnl_same args) ?_
  exact frame_calls b3 b1 (fun o => o = .ret v) (fun o h' e => by subst e; exact ⟨rfl, b2⟩) h0
def mapN : Option BaseF → Option Spec → Option Spec
  | some f, _ => some (bareS f)
  | none, s => s
noncomputable def cxn (hof : List Nat) (NL : List (Nat × BaseF)) (OL : List (Nat × Nat × BaseF)) (GL : List (Nat × BaseF)) (PL : List (Nat × Nat × Plan)) (D : Option (List Nat)) : Ctx :=
  ctx0 Try.prog tabL (memN hof) (fun g => mapN (lookG NL g) (mapS (lookG GL g) (lookO OL g))) (lookP PL) D
section
variable (hof : List Nat) (NL : List (Nat × BaseF)) (OL : List (Nat × Nat × BaseF)) (GL : List (Nat × BaseF)) (PL : List (Nat × Nat × Plan)) (D : Option (List Nat))
theorem cxn_P : (cxn hof NL OL GL PL D).P = Try.prog := rfl
theorem cxn_T : (cxn hof NL OL GL PL D).T = tab := rfl
theorem cxn_F : (cxn hof NL OL GL PL D).F = entB Try.prog := rfl
theorem cxn_FN (g : Nat) : (cxn hof NL OL GL PL D).FN g = Try.prog.funcs[g]? := rfl
theorem cxn_inl (g : Nat) : (cxn hof NL OL GL PL D).inl g = !memN hof g := rfl
theorem cxn_G (g : Nat) : (cxn hof NL OL GL PL D).G g = mapN (lookG NL g) (mapS (lookG GL g) (lookO OL g)) := rfl
theorem cxn_plan (g id : Nat) : (cxn hof NL OL GL PL D).plan g id = lookP PL g id := rfl
theorem cxn_D : (cxn hof NL OL GL PL D).D = D := rfl
theorem cxn_rs : (cxn hof NL OL GL PL D).rs = false := rfl
theorem cxn_off : (cxn hof NL OL GL PL D).off = cxn hof NL OL GL PL none := rfl
end
def AllN : List (Nat × BaseF) → Prop
  | [] => True
  | (g, b) :: l => NB Try.prog g b ∧ AllN l
theorem AllN_mem : ∀ {l : List (Nat × BaseF)}, AllN l → ∀ x ∈ l, NB Try.prog x.1 x.2
  | [], _, x, hx => by simp at hx
  | (g, b) :: l, h, x, hx => by
    rcases List.mem_cons.1 hx with rfl | hx
    · exact h.1
    · exact AllN_mem h.2 x hx
theorem cxn_ok {hof : List Nat} {NL : List (Nat × BaseF)} {OL : List (Nat × Nat × BaseF)} {GL : List (Nat × BaseF)} {PL : List (Nat × Nat × Plan)} {D : Option (List Nat)} (hN : AllN NL) (hO : AllO OL) (h : AllB GL) : CtxOk (cxn hof NL OL GL PL D) :=
  ctx0_ok tab_chk _ _ _ _ (fun g f hf args h0 p v h1 hq hp => by
    cases hn : lookG NL g with
    | some b =>
      rw [hn] at hf
      cases hf
      exact bareS_ok (AllN_mem hN _ (lookG_mem hn)) args h0 p v h1 hq hp
    | none =>
    rw [hn] at hf
    simp only [mapN] at hf
    cases hl : lookG GL g with
    | none =>
      cases hm : lookO OL g with
      | none => rw [hl, hm] at hf; cases hf
      | some x =>
        rw [hl, hm] at hf
        cases hf
        exact lendO_ok (AllO_mem hO _ (lookO_mem hm)) args h0 p v h1 hq hp
    | some b =>
      rw [hl] at hf
      cases hf
      exact lend_ok (AllB_mem h _ (lookG_mem hl)) args h0 p v h1 hq hp) (by kernel_rfl)
theorem retN (h : HS) (x v : SV) : (∃ u, Out.ret x = Out.ret u ∧ Bd 0 0 (frzT h u) ∧ SameD (frzT h u) v) = (Bd 0 0 (frzT h x) ∧ SameD (frzT h x) v) :=
  propext ⟨fun ⟨u, e, h1⟩ => by cases e; exact h1, fun h1 => ⟨x, rfl, h1⟩⟩
theorem frzT_tup (h : HS) (l : List SV) : frzT h (.tup l) = .tup (frzA h l) := rfl
theorem frzT_agg (h : HS) (l : List SV) : frzT h (.agg l) = frzF 4 h (.agg l) := rfl
theorem frzT_vec (h : HS) (a b : Nat) : frzT h (.vec a b) = frzF 4 h (.vec a b) := rfl
theorem frzT_row (h : HS) (n sz : Nat) (f : Nat → Nat → SV) : frzT h (.row n sz f) = .row n sz f := rfl
theorem frzT_int (h : HS) (k : IntKind) (n : Int) : frzT h (.int k n) = .int k n := rfl
theorem frzT_bool (h : HS) (b : Bool) : frzT h (.bool b) = .bool b := rfl
end Go.Eng
end

/- Facts for reckoning the machine out, one for each case. -/
section
namespace Go.Eng
open Go Go.RowKit

def oAlloc (o : Option TI) (e : TypeId) (h : HS) : Res := match o with | some ti => rAlloc ti e h | none => .bad
def oBuildA (o : Option TI) (ti : TI) (ps : List (Nat × SV)) (h : HS) : Res := match o with | some te => rBuild ti te.size ps h | none => .bad
def oBuild (T : Nat → Option TI) (ps : List (Nat × SV)) (h : HS) : Option TI → Res
  | some ti => match ti.kind with
    | .array _ e => oBuildA (T e) ti ps h
    | _ => rBuild ti 0 ps h
  | none => .bad
def oBuildSl2 (o : Option TI) (e len : Nat) (ps : List (Nat × SV)) (h : HS) : Res := match o with | some te => rBuildSlice e te len ps h | none => .bad
def oBuildSl (T : Nat → Option TI) (len : Nat) (ps : List (Nat × SV)) (h : HS) : Option TI → Res
  | some { kind := .slice e, .. } => oBuildSl2 (T e) e len ps h
  | _ => .bad
def oLoad (o : Option TI) (h : HS) (x : SV) : Res := match o with | some ti => rLoad ti h x | none => .bad
def oStore (T : Nat → Option TI) (o : Option TI) (h : HS) (x : SV) (b : Bool) (y : SV) : Res := match o with | some ti => rStoreN T h ti x b y | none => .bad
def oConv (T : Nat → Option TI) (o o' : Option TI) (x : SV) (h : HS) : Res := match o, o' with | some ts, some td => rConvT T ts td x h | _, _ => .bad
def oIface (o : Option TI) (ty : TypeId) (x : SV) (h : HS) : Res := match o with | some ti => rIface ti ty x h | none => .bad
def oSlice2 (o : Option TI) (ti : TI) (g : Bool) (x : SV) (lo hi mx : Option SV) (h : HS) : Res := match o with | some te => rSl te ti g x lo hi mx h | none => .bad
def oSliceA (o : Option TI) (n : Nat) (x : SV) (lo hi mx : Option SV) (h : HS) : Res := match o with | some te => rSlA n te x lo hi mx h | none => .bad
def oSlice (T : Nat → Option TI) (g : Bool) (x : SV) (lo hi mx : Option SV) (h : HS) : Option TI → Res
  | some ti => match ti.kind with
    | .slice e => oSlice2 (T e) ti g x lo hi mx h
    | .array n e => oSliceA (T e) n x lo hi mx h
    | _ => .bad
  | none => .bad
def oIdxA (o : Option TI) (n : Nat) (x y : SV) (h : HS) : Res := match o with | some te => rIdx n te x y h | none => .bad
def oIdx (T : Nat → Option TI) (x y : SV) (h : HS) : Option TI → Res
  | some ti => match ti.kind with
    | .array n e => oIdxA (T e) n x y h
    | .str => rIdxS x y h
    | _ => .bad
  | none => .bad
def slA (nm off n : Nat) (te : TI) (h : HS) : Option Int → Res
  | some u => .val (te.size = 1 ∧ 0 ≤ u ∧ u ≤ (n : Int)) (.bsl nm off u.toNat) h
  | none => .bad
def oCopy2 (o : Option TI) (d s : SV) (h : HS) : Res := match o with | some te => rCopy te d s h | none => .bad
def oCopy (T : Nat → Option TI) (d s : SV) (h : HS) : Option TI → Res
  | some { kind := .slice e, .. } => oCopy2 (T e) d s h
  | _ => .bad
def oMake2 (o : Option TI) (e : Nat) (l c : SV) (h : HS) : Res := match o with | some te => rMake e te l c h | none => .bad
def oMake (T : Nat → Option TI) (l c : SV) (h : HS) : Option TI → Res
  | some { kind := .slice e, .. } => oMake2 (T e) e l c h
  | _ => .bad
def oField (o : Option TI) (h : HS) (x : SV) (k : Nat) : Res := match o with | some ti => rField ti h x k | none => .bad
def oIndex2 (o : Option TI) (ti : TI) (h : HS) (x y : SV) : Res := match o with | some te => rIndex ti te.size h x y | none => .bad
def oIndex (T : Nat → Option TI) (h : HS) (x y : SV) : Option TI → Res
  | some ti => match ti.kind with
    | .slice e => oIndex2 (T e) ti h x y
    | .array _ e => oIndex2 (T e) ti h x y
    | _ => .bad
  | none => .bad
def oAssert (o : Option TI) (ty : TypeId) (x : SV) (ok : Bool) (h : HS) : Res := match o with | some ti => rAssert ti ty x ok h | none => .bad
def bLoad (ti : TI) (h : HS) (off : Nat) : Blk → Res
  | .live _ cells => .val (off + ti.size ≤ lenS cells) (ofCells ti.agg ti.size cells off) h
  | _ => .bad
def vLoad (ti : TI) (h : HS) (ver sz i off : Nat) : Vc → Res
  | .live ver' _ sz' n f => .val (ver = ver' ∧ sz = sz' ∧ i < n ∧ off + ti.size ≤ sz) (if ti.agg then .agg (cellsF (fun j => f i (off + j)) ti.size 0) else f i off) h
  | .dead => .bad
theorem opRes_move (T : Nat → Option TI) (F : Nat → Bool) (t : List SV) (h : HS) (dst : Option Nat) (ty : TypeId) (pos : String) (aft : Array Edge) (g : Option (Nat × Bool)) (x : Operand) : opRes T F t h ⟨dst, .move x, ty, pos, aft, g⟩ = rMove T t h ty x := rfl
theorem opRes_assign (T : Nat → Option TI) (F : Nat → Bool) (t : List SV) (h : HS) (dst : Option Nat) (ty : TypeId) (pos : String) (aft : Array Edge) (g : Option (Nat × Bool)) (x : Operand) : opRes T F t h ⟨dst, .assign x, ty, pos, aft, g⟩ = rMove T t h ty x := rfl
theorem opRes_pick (T : Nat → Option TI) (F : Nat → Bool) (t : List SV) (h : HS) (dst : Option Nat) (ty : TypeId) (pos : String) (aft : Array Edge) (g : Option (Nat × Bool)) (c a b : Operand) : opRes T F t h ⟨dst, .pick c a b, ty, pos, aft, g⟩ = rPick h (ev t c) (ev t a) (ev t b) := rfl
theorem opRes_alloc (T : Nat → Option TI) (F : Nat → Bool) (t : List SV) (h : HS) (dst : Option Nat) (ty : TypeId) (pos : String) (aft : Array Edge) (g : Option (Nat × Bool)) (e : TypeId) : opRes T F t h ⟨dst, .alloc e, ty, pos, aft, g⟩ = oAlloc (T e) e h := rfl
theorem opRes_box (T : Nat → Option TI) (F : Nat → Bool) (t : List SV) (h : HS) (dst : Option Nat) (ty : TypeId) (pos : String) (aft : Array Edge) (g : Option (Nat × Bool)) (e : TypeId) (x : Operand) : opRes T F t h ⟨dst, .box e x, ty, pos, aft, g⟩ = rBoxO h (T e) e (ev t x) := rfl
theorem opRes_build (T : Nat → Option TI) (F : Nat → Bool) (t : List SV) (h : HS) (dst : Option Nat) (ty : TypeId) (pos : String) (aft : Array Edge) (g : Option (Nat × Bool)) (e : TypeId) (ps : Array (Nat × Operand)) : opRes T F t h ⟨dst, .build e ps, ty, pos, aft, g⟩ = oBuild T (evP t ps.toList) h (T e) := rfl
theorem opRes_buildSlice (T : Nat → Option TI) (F : Nat → Bool) (t : List SV) (h : HS) (dst : Option Nat) (ty : TypeId) (pos : String) (aft : Array Edge) (g : Option (Nat × Bool)) (e : TypeId) (len : Nat) (ps : Array (Nat × Operand)) : opRes T F t h ⟨dst, .buildSlice e len ps, ty, pos, aft, g⟩ = oBuildSl T len (evP t ps.toList) h (T e) := rfl
theorem opRes_load (T : Nat → Option TI) (F : Nat → Bool) (t : List SV) (h : HS) (dst : Option Nat) (ty : TypeId) (pos : String) (aft : Array Edge) (g : Option (Nat × Bool)) (e : TypeId) (x : Operand) : opRes T F t h ⟨dst, .load e x, ty, pos, aft, g⟩ = oLoad (T e) h (ev t x) := rfl
theorem opRes_store (T : Nat → Option TI) (F : Nat → Bool) (t : List SV) (h : HS) (dst : Option Nat) (ty : TypeId) (pos : String) (aft : Array Edge) (g : Option (Nat × Bool)) (e : TypeId) (x y : Operand) : opRes T F t h ⟨dst, .store e x y, ty, pos, aft, g⟩ = oStore T (T e) h (ev t x) (isNilSl y) (ev t y) := rfl
theorem opRes_nilCheck (T : Nat → Option TI) (F : Nat → Bool) (t : List SV) (h : HS) (dst : Option Nat) (ty : TypeId) (pos : String) (aft : Array Edge) (g : Option (Nat × Bool)) (x : Operand) : opRes T F t h ⟨dst, .nilCheck x, ty, pos, aft, g⟩ = rNil h (ev t x) := rfl
theorem opRes_binOp (T : Nat → Option TI) (F : Nat → Bool) (t : List SV) (h : HS) (dst : Option Nat) (ty : TypeId) (pos : String) (aft : Array Edge) (g : Option (Nat × Bool)) (o : BinOp) (e : TypeId) (x y : Operand) (e2 : TypeId) : opRes T F t h ⟨dst, .binOp o e x y e2, ty, pos, aft, g⟩ = rBin3 (T e) (isConst x || isConst y) o (isNilSl y) (ev t x) (ev t y) h := rfl
theorem opRes_unOp (T : Nat → Option TI) (F : Nat → Bool) (t : List SV) (h : HS) (dst : Option Nat) (ty : TypeId) (pos : String) (aft : Array Edge) (g : Option (Nat × Bool)) (o : UnOp) (e : TypeId) (x : Operand) : opRes T F t h ⟨dst, .unOp o e x, ty, pos, aft, g⟩ = rUn o (ev t x) h := rfl
theorem opRes_convert (T : Nat → Option TI) (F : Nat → Bool) (t : List SV) (h : HS) (dst : Option Nat) (ty : TypeId) (pos : String) (aft : Array Edge) (g : Option (Nat × Bool)) (s d : TypeId) (x : Operand) : opRes T F t h ⟨dst, .convert s d x, ty, pos, aft, g⟩ = oConv T (T s) (T d) (ev t x) h := rfl
theorem opRes_makeInterface (T : Nat → Option TI) (F : Nat → Bool) (t : List SV) (h : HS) (dst : Option Nat) (ty : TypeId) (pos : String) (aft : Array Edge) (g : Option (Nat × Bool)) (e : TypeId) (x : Operand) : opRes T F t h ⟨dst, .makeInterface e x, ty, pos, aft, g⟩ = oIface (T e) e (ev t x) h := rfl
theorem opRes_makeFunc (T : Nat → Option TI) (F : Nat → Bool) (t : List SV) (h : HS) (dst : Option Nat) (ty : TypeId) (pos : String) (aft : Array Edge) (g : Option (Nat × Bool)) (fn : Fn) (first caps : Array Operand) : opRes T F t h ⟨dst, .makeFunc fn first caps, ty, pos, aft, g⟩ = rFunc h fn (evL t first.toList) (evL t caps.toList) := rfl
theorem opRes_slice (T : Nat → Option TI) (F : Nat → Bool) (t : List SV) (h : HS) (dst : Option Nat) (ty : TypeId) (pos : String) (aft : Array Edge) (g : Option (Nat × Bool)) (e : TypeId) (x : Operand) (lo hi mx : Option Operand) : opRes T F t h ⟨dst, .slice e x lo hi mx, ty, pos, aft, g⟩ = oSlice T (hiOk hi mx) (ev t x) (evO t lo) (evO t hi) (evO t mx) h (T e) := rfl
theorem opRes_makeSlice (T : Nat → Option TI) (F : Nat → Bool) (t : List SV) (h : HS) (dst : Option Nat) (ty : TypeId) (pos : String) (aft : Array Edge) (g : Option (Nat × Bool)) (e : TypeId) (l c : Operand) : opRes T F t h ⟨dst, .makeSlice e l c, ty, pos, aft, g⟩ = oMake T (ev t l) (ev t c) h (T e) := rfl
theorem opRes_fieldAddr (T : Nat → Option TI) (F : Nat → Bool) (t : List SV) (h : HS) (dst : Option Nat) (ty : TypeId) (pos : String) (aft : Array Edge) (g : Option (Nat × Bool)) (e : TypeId) (x : Operand) (k : Nat) : opRes T F t h ⟨dst, .fieldAddr e x k, ty, pos, aft, g⟩ = oField (T e) h (ev t x) k := rfl
theorem opRes_indexAddr (T : Nat → Option TI) (F : Nat → Bool) (t : List SV) (h : HS) (dst : Option Nat) (ty : TypeId) (pos : String) (aft : Array Edge) (g : Option (Nat × Bool)) (e : TypeId) (x y : Operand) : opRes T F t h ⟨dst, .indexAddr e x y, ty, pos, aft, g⟩ = oIndex T h (ev t x) (ev t y) (T e) := rfl
theorem opRes_typeAssert (T : Nat → Option TI) (F : Nat → Bool) (t : List SV) (h : HS) (dst : Option Nat) (ty : TypeId) (pos : String) (aft : Array Edge) (g : Option (Nat × Bool)) (x : Operand) (xt e : TypeId) (ok : Bool) : opRes T F t h ⟨dst, .typeAssert x xt e ok, ty, pos, aft, g⟩ = oAssert (T e) e (ev t x) ok h := rfl
theorem opRes_extract (T : Nat → Option TI) (F : Nat → Bool) (t : List SV) (h : HS) (dst : Option Nat) (ty : TypeId) (pos : String) (aft : Array Edge) (g : Option (Nat × Bool)) (x : Operand) (k : Nat) : opRes T F t h ⟨dst, .extract x k, ty, pos, aft, g⟩ = rExtract (ev t x) k h := rfl
theorem opRes_call (T : Nat → Option TI) (F : Nat → Bool) (t : List SV) (h : HS) (dst : Option Nat) (ty : TypeId) (pos : String) (aft : Array Edge) (g : Option (Nat × Bool)) (f : Operand) (args : Array Operand) (tys : Array TypeId) : opRes T F t h ⟨dst, .call ⟨.value f, args, tys⟩, ty, pos, aft, g⟩ = rCallN F h (lastN T args.toList tys.toList) (ev t f) (argsN T t (lastN T args.toList tys.toList) args.toList tys.toList) := rfl
theorem opRes_callB (T : Nat → Option TI) (F : Nat → Bool) (t : List SV) (h : HS) (dst : Option Nat) (ty : TypeId) (pos : String) (aft : Array Edge) (g : Option (Nat × Bool)) (f : Builtin) (args : Array Operand) (tys : Array TypeId) : opRes T F t h ⟨dst, .call ⟨.builtin f, args, tys⟩, ty, pos, aft, g⟩ = rBuiltin T h f tys.toList (evL t args.toList) := rfl
theorem opRes_panic (T : Nat → Option TI) (F : Nat → Bool) (t : List SV) (h : HS) (dst : Option Nat) (ty : TypeId) (pos : String) (aft : Array Edge) (g : Option (Nat × Bool)) (x : Operand) : opRes T F t h ⟨dst, .panic x, ty, pos, aft, g⟩ = rPanic (ev t x) := rfl
theorem opRes_defer (T : Nat → Option TI) (F : Nat → Bool) (t : List SV) (h : HS) (dst : Option Nat) (ty : TypeId) (pos : String) (aft : Array Edge) (g : Option (Nat × Bool)) (c : Call) : opRes T F t h ⟨dst, .defer c, ty, pos, aft, g⟩ = .bad := rfl
theorem opRes_makeMap (T : Nat → Option TI) (F : Nat → Bool) (t : List SV) (h : HS) (dst : Option Nat) (ty : TypeId) (pos : String) (aft : Array Edge) (g : Option (Nat × Bool)) (e : TypeId) : opRes T F t h ⟨dst, .makeMap e none, ty, pos, aft, g⟩ = mMk T h (T e) := rfl
theorem opRes_lookup (T : Nat → Option TI) (F : Nat → Bool) (t : List SV) (h : HS) (dst : Option Nat) (ty : TypeId) (pos : String) (aft : Array Edge) (g : Option (Nat × Bool)) (e : TypeId) (x y : Operand) (ok : Bool) : opRes T F t h ⟨dst, .lookup e x y ok, ty, pos, aft, g⟩ = mLk T ok (ev t x) (ev t y) h (T e) := rfl
theorem opRes_mapUpdate (T : Nat → Option TI) (F : Nat → Bool) (t : List SV) (h : HS) (dst : Option Nat) (ty : TypeId) (pos : String) (aft : Array Edge) (g : Option (Nat × Bool)) (e : TypeId) (x y z : Operand) : opRes T F t h ⟨dst, .mapUpdate e x y z, ty, pos, aft, g⟩ = mUp T (ev t x) (ev t y) (ev t z) h (T e) := rfl
theorem opRes_insert (T : Nat → Option TI) (F : Nat → Bool) (t : List SV) (h : HS) (dst : Option Nat) (ty : TypeId) (pos : String) (aft : Array Edge) (g : Option (Nat × Bool)) (e : TypeId) (x y z : Operand) : opRes T F t h ⟨dst, .insert e x y z, ty, pos, aft, g⟩ = mUp T (ev t x) (ev t y) (ev t z) h (T e) := rfl
theorem opRes_field (T : Nat → Option TI) (F : Nat → Bool) (t : List SV) (h : HS) (dst : Option Nat) (ty : TypeId) (pos : String) (aft : Array Edge) (g : Option (Nat × Bool)) (e : TypeId) (x : Operand) (k : Nat) : opRes T F t h ⟨dst, .field e x k, ty, pos, aft, g⟩ = mFd (ev t x) k h (T e) := rfl
theorem opRes_index (T : Nat → Option TI) (F : Nat → Bool) (t : List SV) (h : HS) (dst : Option Nat) (ty : TypeId) (pos : String) (aft : Array Edge) (g : Option (Nat × Bool)) (e : TypeId) (x y : Operand) : opRes T F t h ⟨dst, .index e x y, ty, pos, aft, g⟩ = oIdx T (ev t x) (ev t y) h (T e) := rfl
theorem mMk_m (T : Nat → Option TI) (h : HS) (k v : Nat) (agg ifc : Bool) (size bytes : Nat) (zero : List ZC) (eq : Option (List LK)) (fag : List Bool) (mt : List (String × Nat)) : mMk T h (some ⟨.map k v, agg, ifc, size, bytes, zero, eq, fag, mt⟩) = mMk2 k v h (T k) (T v) := rfl
theorem mLk_m (T : Nat → Option TI) (ok : Bool) (x y : SV) (h : HS) (k v : Nat) (agg ifc : Bool) (size bytes : Nat) (zero : List ZC) (eq : Option (List LK)) (fag : List Bool) (mt : List (String × Nat)) : mLk T ok x y h (some ⟨.map k v, agg, ifc, size, bytes, zero, eq, fag, mt⟩) = mLk2 ok x y h (T k) (T v) := rfl
theorem mUp_m (T : Nat → Option TI) (x y z : SV) (h : HS) (k v : Nat) (agg ifc : Bool) (size bytes : Nat) (zero : List ZC) (eq : Option (List LK)) (fag : List Bool) (mt : List (String × Nat)) : mUp T x y z h (some ⟨.map k v, agg, ifc, size, bytes, zero, eq, fag, mt⟩) = mUp2 x y z h (T k) := rfl
theorem rLookup_m (tk tv : TI) (ok : Bool) (nm : Nat) (y : SV) (h : HS) : rLookup tk tv ok (.mapp nm) y h = rLookB ok (keyKs tk) (valKs tv.zero) tv.agg y h (getB h.blks nm) := rfl
theorem rUpdate_m (tk : TI) (nm : Nat) (y z : SV) (h : HS) : rUpdate tk (.mapp nm) y z h = rUpdB nm (keyKs tk) y z h (getB h.blks nm) := rfl
theorem keyKs_i (ifc : Bool) (size bytes : Nat) (zero : List ZC) (eq : Option (List LK)) (fag : List Bool) (mt : List (String × Nat)) : keyKs ⟨.int .i64, false, ifc, size, bytes, zero, eq, fag, mt⟩ = some (false, [.i]) := rfl
theorem keyKs_a (kind : TK) (ifc : Bool) (size bytes : Nat) (zero : List ZC) (ks : List LK) (fag : List Bool) (mt : List (String × Nat)) : keyKs ⟨kind, true, ifc, size, bytes, zero, some ks, fag, mt⟩ = if isI ks then some (true, ks) else none := rfl
def fldO (fag : List Bool) (k : Nat) (x : SV) (h : HS) : Option (Nat × Nat) → Res
  | some (o, s) => match x with
    | .agg l => .val (o + s ≤ lenS l) (if gtB fag k then .agg (takeN s (dropN o l)) else nth l o) h
    | _ => .bad
  | none => .bad
theorem rFld_s (offs : List (Nat × Nat)) (agg ifc : Bool) (size bytes : Nat) (zero : List ZC) (eq : Option (List LK)) (fag : List Bool) (mt : List (String × Nat)) (x : SV) (k : Nat) (h : HS) : rFld ⟨.struct offs, agg, ifc, size, bytes, zero, eq, fag, mt⟩ x k h = fldO fag k x h (nthO offs k) := rfl
theorem fldO_s (fag : List Bool) (k : Nat) (l : List SV) (h : HS) (o s : Nat) : fldO fag k (.agg l) h (some (o, s)) = .val (o + s ≤ lenS l) (if gtB fag k then .agg (takeN s (dropN o l)) else nth l o) h := rfl
def mLen (h : HS) : Blk → Res
  | .mp m => lenI m.es h m.it
  | _ => .bad
theorem rLen_m (k v : Nat) (agg ifc : Bool) (size bytes : Nat) (zero : List ZC) (eq : Option (List LK)) (fag : List Bool) (mt : List (String × Nat)) (h : HS) (nm : Nat) : rLen ⟨.map k v, agg, ifc, size, bytes, zero, eq, fag, mt⟩ h (.mapp nm) = mLen h (getB h.blks nm) := rfl
theorem oBuild_a (T : Nat → Option TI) (ps : List (Nat × SV)) (h : HS) (n e : Nat) (agg ifc : Bool) (size bytes : Nat) (zero : List ZC) (eq : Option (List LK)) (fag : List Bool) (mt : List (String × Nat)) : oBuild T ps h (some ⟨.array n e, agg, ifc, size, bytes, zero, eq, fag, mt⟩) = oBuildA (T e) ⟨.array n e, agg, ifc, size, bytes, zero, eq, fag, mt⟩ ps h := rfl
theorem oBuild_s (T : Nat → Option TI) (ps : List (Nat × SV)) (h : HS) (o : List (Nat × Nat)) (agg ifc : Bool) (size bytes : Nat) (zero : List ZC) (eq : Option (List LK)) (fag : List Bool) (mt : List (String × Nat)) : oBuild T ps h (some ⟨.struct o, agg, ifc, size, bytes, zero, eq, fag, mt⟩) = rBuild ⟨.struct o, agg, ifc, size, bytes, zero, eq, fag, mt⟩ 0 ps h := rfl
theorem rBuild_a (se : Nat) (ps : List (Nat × SV)) (h : HS) (n e : Nat) (agg ifc : Bool) (size bytes : Nat) (zero : List ZC) (eq : Option (List LK)) (fag : List Bool) (mt : List (String × Nat)) : rBuild ⟨.array n e, agg, ifc, size, bytes, zero, eq, fag, mt⟩ se ps h = fin2 (fillS (placeA se) ps (zcs zero)) h := rfl
theorem rBuild_s (se : Nat) (ps : List (Nat × SV)) (h : HS) (o : List (Nat × Nat)) (agg ifc : Bool) (size bytes : Nat) (zero : List ZC) (eq : Option (List LK)) (fag : List Bool) (mt : List (String × Nat)) : rBuild ⟨.struct o, agg, ifc, size, bytes, zero, eq, fag, mt⟩ se ps h = fin2 (fillS (placeS o) ps (zcs zero)) h := rfl
theorem oSlice_s (T : Nat → Option TI) (g : Bool) (x : SV) (lo hi mx : Option SV) (h : HS) (e : Nat) (agg ifc : Bool) (size bytes : Nat) (zero : List ZC) (eq : Option (List LK)) (fag : List Bool) (mt : List (String × Nat)) : oSlice T g x lo hi mx h (some ⟨.slice e, agg, ifc, size, bytes, zero, eq, fag, mt⟩) = oSlice2 (T e) ⟨.slice e, agg, ifc, size, bytes, zero, eq, fag, mt⟩ g x lo hi mx h := rfl
theorem oSlice_a (T : Nat → Option TI) (g : Bool) (x : SV) (lo hi mx : Option SV) (h : HS) (n e : Nat) (agg ifc : Bool) (size bytes : Nat) (zero : List ZC) (eq : Option (List LK)) (fag : List Bool) (mt : List (String × Nat)) : oSlice T g x lo hi mx h (some ⟨.array n e, agg, ifc, size, bytes, zero, eq, fag, mt⟩) = oSliceA (T e) n x lo hi mx h := rfl
theorem oIdx_a (T : Nat → Option TI) (x y : SV) (h : HS) (n e : Nat) (agg ifc : Bool) (size bytes : Nat) (zero : List ZC) (eq : Option (List LK)) (fag : List Bool) (mt : List (String × Nat)) : oIdx T x y h (some ⟨.array n e, agg, ifc, size, bytes, zero, eq, fag, mt⟩) = oIdxA (T e) n x y h := rfl
theorem rSlA_p (n : Nat) (te : TI) (nm off : Nat) (hi : Option SV) (h : HS) : rSlA n te (.ptr nm off) none hi none h = slA nm off n te h (intO (n : Int) hi) := rfl
theorem rIdx_a (n : Nat) (kind : TK) (ifc : Bool) (size bytes : Nat) (zero : List ZC) (eq : Option (List LK)) (fag : List Bool) (mt : List (String × Nat)) (l : List SV) (k : IntKind) (i : Int) (h : HS) : rIdx n ⟨kind, false, ifc, size, bytes, zero, eq, fag, mt⟩ (.agg l) (.int k i) h = .val (0 ≤ i ∧ i < (n : Int) ∧ i.toNat < lenS l ∧ size = 1) (nth l i.toNat) h := rfl
theorem rBuiltin_copy (T : Nat → Option TI) (h : HS) (ty ty2 : TypeId) (d s : SV) : rBuiltin T h .copy [ty, ty2] [d, s] = oCopy T d s h (T ty) := rfl
theorem oCopy_s (T : Nat → Option TI) (d s : SV) (h : HS) (e : Nat) (agg ifc : Bool) (size bytes : Nat) (zero : List ZC) (eq : Option (List LK)) (fag : List Bool) (mt : List (String × Nat)) : oCopy T d s h (some ⟨.slice e, agg, ifc, size, bytes, zero, eq, fag, mt⟩) = oCopy2 (T e) d s h := rfl
theorem rNil_be (h : HS) (e : Nat) (agg ifc : Bool) (size bytes : Nat) (zero : List ZC) (eq : Option (List LK)) (fag : List Bool) (mt : List (String × Nat)) (a b c : Nat) : rEqNil (some ⟨.slice e, agg, ifc, size, bytes, zero, eq, fag, mt⟩) .eql (.bsl a b c) h = .val True (.bool false) h := rfl
theorem rNil_bn (h : HS) (e : Nat) (agg ifc : Bool) (size bytes : Nat) (zero : List ZC) (eq : Option (List LK)) (fag : List Bool) (mt : List (String × Nat)) (a b c : Nat) : rEqNil (some ⟨.slice e, agg, ifc, size, bytes, zero, eq, fag, mt⟩) .neq (.bsl a b c) h = .val True (.bool true) h := rfl
def rBoxB (h : HS) (e : TypeId) (y : SV) : Bool → Res
  | true => rBox e (ownC y h).1 (ownC y h).2
  | false => rBox e y h
def ownM (x : SV) (l : List SV) (h : HS) : Option (Nat × Nat) → List SV × HS
  | some (e, sz) => (.vec (lenV h.vecs) 0 :: (ownN l { h with vecs := snocV h.vecs (.live 0 e sz 0 (fun _ _ => .any)) }).1, (ownN l { h with vecs := snocV h.vecs (.live 0 e sz 0 (fun _ _ => .any)) }).2)
  | none => (x :: (ownN l h).1, (ownN l h).2)
def dnlM (x : SV) : Option (Nat × Nat) → SV
  | some (_, sz) => .row 0 sz (fun _ _ => .any)
  | none => x
theorem rBoxO_s (h : HS) (ti : TI) (e : TypeId) (y : SV) : rBoxO h (some ti) e y = rBoxB h e y (hasSl ti.zero) := by simp only [rBoxO]; cases hasSl ti.zero <;> rfl
theorem rBoxO_n (h : HS) (e : TypeId) (y : SV) : rBoxO h none e y = rBox e y h := rfl
theorem ownN_c (x : SV) (l : List SV) (h : HS) : ownN (x :: l) h = ownM x l h (isN x) := by simp only [ownN]; cases isN x <;> rfl
theorem dnl1_c (x : SV) : dnl1 x = dnlM x (isN x) := by simp only [dnl1]; cases isN x <;> rfl
theorem isN_any  : isN SV.any = none := rfl
theorem ownC_any  (h : HS) : ownC SV.any h = (SV.any, h) := rfl
theorem ownS_any  (h : HS) : ownS SV.any h = ownC SV.any h := rfl
theorem dnl_any  : dnl SV.any = dnl1 SV.any := rfl
theorem isN_int  (k : IntKind) (n : Int) : isN (SV.int k n) = none := rfl
theorem ownC_int  (k : IntKind) (n : Int) (h : HS) : ownC (SV.int k n) h = ((SV.int k n), h) := rfl
theorem ownS_int  (k : IntKind) (n : Int) (h : HS) : ownS (SV.int k n) h = ownC (SV.int k n) h := rfl
theorem dnl_int  (k : IntKind) (n : Int) : dnl (SV.int k n) = dnl1 (SV.int k n) := rfl
theorem isN_bool  (b : Bool) : isN (SV.bool b) = none := rfl
theorem ownC_bool  (b : Bool) (h : HS) : ownC (SV.bool b) h = ((SV.bool b), h) := rfl
theorem ownS_bool  (b : Bool) (h : HS) : ownS (SV.bool b) h = ownC (SV.bool b) h := rfl
theorem dnl_bool  (b : Bool) : dnl (SV.bool b) = dnl1 (SV.bool b) := rfl
theorem isN_str  (s : ByteArray) : isN (SV.str s) = none := rfl
theorem ownC_str  (s : ByteArray) (h : HS) : ownC (SV.str s) h = ((SV.str s), h) := rfl
theorem ownS_str  (s : ByteArray) (h : HS) : ownS (SV.str s) h = ownC (SV.str s) h := rfl
theorem dnl_str  (s : ByteArray) : dnl (SV.str s) = dnl1 (SV.str s) := rfl
theorem isN_ptr  (nm : Nat) (off : Nat) : isN (SV.ptr nm off) = none := rfl
theorem ownC_ptr  (nm : Nat) (off : Nat) (h : HS) : ownC (SV.ptr nm off) h = ((SV.ptr nm off), h) := rfl
theorem ownS_ptr  (nm : Nat) (off : Nat) (h : HS) : ownS (SV.ptr nm off) h = ownC (SV.ptr nm off) h := rfl
theorem dnl_ptr  (nm : Nat) (off : Nat) : dnl (SV.ptr nm off) = dnl1 (SV.ptr nm off) := rfl
theorem isN_nilp  : isN SV.nilp = none := rfl
theorem ownC_nilp  (h : HS) : ownC SV.nilp h = (SV.nilp, h) := rfl
theorem ownS_nilp  (h : HS) : ownS SV.nilp h = ownC SV.nilp h := rfl
theorem dnl_nilp  : dnl SV.nilp = dnl1 SV.nilp := rfl
theorem isN_nils  (ety : Nat) (nsz : Nat) : isN (SV.nils ety nsz) = some (ety, nsz) := rfl
theorem ownS_nils  (ety : Nat) (nsz : Nat) (h : HS) : ownS (SV.nils ety nsz) h = ownC (SV.nils ety nsz) h := rfl
theorem dnl_nils  (ety : Nat) (nsz : Nat) : dnl (SV.nils ety nsz) = dnl1 (SV.nils ety nsz) := rfl
theorem isN_rptr  (sz : Nat) (f : Nat → SV) : isN (SV.rptr sz f) = none := rfl
theorem ownC_rptr  (sz : Nat) (f : Nat → SV) (h : HS) : ownC (SV.rptr sz f) h = ((SV.rptr sz f), h) := rfl
theorem ownS_rptr  (sz : Nat) (f : Nat → SV) (h : HS) : ownS (SV.rptr sz f) h = ownC (SV.rptr sz f) h := rfl
theorem dnl_rptr  (sz : Nat) (f : Nat → SV) : dnl (SV.rptr sz f) = dnl1 (SV.rptr sz f) := rfl
theorem isN_row  (n : Nat) (sz : Nat) (f : Nat → Nat → SV) : isN (SV.row n sz f) = none := rfl
theorem ownC_row  (n : Nat) (sz : Nat) (f : Nat → Nat → SV) (h : HS) : ownC (SV.row n sz f) h = ((SV.row n sz f), h) := rfl
theorem ownS_row  (n : Nat) (sz : Nat) (f : Nat → Nat → SV) (h : HS) : ownS (SV.row n sz f) h = ownC (SV.row n sz f) h := rfl
theorem dnl_row  (n : Nat) (sz : Nat) (f : Nat → Nat → SV) : dnl (SV.row n sz f) = dnl1 (SV.row n sz f) := rfl
theorem isN_vec  (id : Nat) (ver : Nat) : isN (SV.vec id ver) = none := rfl
theorem ownC_vec  (id : Nat) (ver : Nat) (h : HS) : ownC (SV.vec id ver) h = ((SV.vec id ver), h) := rfl
theorem ownS_vec  (id : Nat) (ver : Nat) (h : HS) : ownS (SV.vec id ver) h = ownC (SV.vec id ver) h := rfl
theorem dnl_vec  (id : Nat) (ver : Nat) : dnl (SV.vec id ver) = dnl1 (SV.vec id ver) := rfl
theorem isN_vptr  (id : Nat) (ver : Nat) (sz : Nat) (i : Nat) (off : Nat) : isN (SV.vptr id ver sz i off) = none := rfl
theorem ownC_vptr  (id : Nat) (ver : Nat) (sz : Nat) (i : Nat) (off : Nat) (h : HS) : ownC (SV.vptr id ver sz i off) h = ((SV.vptr id ver sz i off), h) := rfl
theorem ownS_vptr  (id : Nat) (ver : Nat) (sz : Nat) (i : Nat) (off : Nat) (h : HS) : ownS (SV.vptr id ver sz i off) h = ownC (SV.vptr id ver sz i off) h := rfl
theorem dnl_vptr  (id : Nat) (ver : Nat) (sz : Nat) (i : Nat) (off : Nat) : dnl (SV.vptr id ver sz i off) = dnl1 (SV.vptr id ver sz i off) := rfl
theorem isN_func  (g : Nat) (caps : List SV) : isN (SV.func g caps) = none := rfl
theorem ownC_func  (g : Nat) (caps : List SV) (h : HS) : ownC (SV.func g caps) h = ((SV.func g caps), h) := rfl
theorem ownS_func  (g : Nat) (caps : List SV) (h : HS) : ownS (SV.func g caps) h = ownC (SV.func g caps) h := rfl
theorem dnl_func  (g : Nat) (caps : List SV) : dnl (SV.func g caps) = dnl1 (SV.func g caps) := rfl
theorem isN_nilf  : isN SV.nilf = none := rfl
theorem ownC_nilf  (h : HS) : ownC SV.nilf h = (SV.nilf, h) := rfl
theorem ownS_nilf  (h : HS) : ownS SV.nilf h = ownC SV.nilf h := rfl
theorem dnl_nilf  : dnl SV.nilf = dnl1 SV.nilf := rfl
theorem isN_iface  (t : TypeId) (v : SV) : isN (SV.iface t v) = none := rfl
theorem ownC_iface  (t : TypeId) (v : SV) (h : HS) : ownC (SV.iface t v) h = ((SV.iface t v), h) := rfl
theorem ownS_iface  (t : TypeId) (v : SV) (h : HS) : ownS (SV.iface t v) h = ownC (SV.iface t v) h := rfl
theorem dnl_iface  (t : TypeId) (v : SV) : dnl (SV.iface t v) = dnl1 (SV.iface t v) := rfl
theorem isN_nili  : isN SV.nili = none := rfl
theorem ownC_nili  (h : HS) : ownC SV.nili h = (SV.nili, h) := rfl
theorem ownS_nili  (h : HS) : ownS SV.nili h = ownC SV.nili h := rfl
theorem dnl_nili  : dnl SV.nili = dnl1 SV.nili := rfl
theorem isN_agg  (l : List SV) : isN (SV.agg l) = none := rfl
theorem ownS_agg  (l : List SV) (h : HS) : ownS (SV.agg l) h = ownC (SV.agg l) h := rfl
theorem isN_tup  (l : List SV) : isN (SV.tup l) = none := rfl
theorem ownC_tup  (l : List SV) (h : HS) : ownC (SV.tup l) h = ((SV.tup l), h) := rfl
theorem ownS_tup  (l : List SV) (h : HS) : ownS (SV.tup l) h = ownC (SV.tup l) h := rfl
theorem dnl_tup  (l : List SV) : dnl (SV.tup l) = dnl1 (SV.tup l) := rfl
theorem isN_yield  (nm : Nat) : isN (SV.yield nm) = none := rfl
theorem ownC_yield  (nm : Nat) (h : HS) : ownC (SV.yield nm) h = ((SV.yield nm), h) := rfl
theorem ownS_yield  (nm : Nat) (h : HS) : ownS (SV.yield nm) h = ownC (SV.yield nm) h := rfl
theorem dnl_yield  (nm : Nat) : dnl (SV.yield nm) = dnl1 (SV.yield nm) := rfl
theorem isN_meth  (g : Nat) (first : List SV) : isN (SV.meth g first) = none := rfl
theorem ownC_meth  (g : Nat) (first : List SV) (h : HS) : ownC (SV.meth g first) h = ((SV.meth g first), h) := rfl
theorem ownS_meth  (g : Nat) (first : List SV) (h : HS) : ownS (SV.meth g first) h = ownC (SV.meth g first) h := rfl
theorem dnl_meth  (g : Nat) (first : List SV) : dnl (SV.meth g first) = dnl1 (SV.meth g first) := rfl
theorem isN_vcut  (id : Nat) (ver : Nat) (sz : Nat) (lo : Nat) (n : Nat) (x1 : Bool) : isN (SV.vcut id ver sz lo n x1) = none := rfl
theorem ownC_vcut  (id : Nat) (ver : Nat) (sz : Nat) (lo : Nat) (n : Nat) (x1 : Bool) (h : HS) : ownC (SV.vcut id ver sz lo n x1) h = ((SV.vcut id ver sz lo n x1), h) := rfl
theorem dnl_vcut  (id : Nat) (ver : Nat) (sz : Nat) (lo : Nat) (n : Nat) (x1 : Bool) : dnl (SV.vcut id ver sz lo n x1) = dnl1 (SV.vcut id ver sz lo n x1) := rfl
theorem isN_bsl  (nm : Nat) (off : Nat) (n : Nat) : isN (SV.bsl nm off n) = none := rfl
theorem ownC_bsl  (nm : Nat) (off : Nat) (n : Nat) (h : HS) : ownC (SV.bsl nm off n) h = ((SV.bsl nm off n), h) := rfl
theorem ownS_bsl  (nm : Nat) (off : Nat) (n : Nat) (h : HS) : ownS (SV.bsl nm off n) h = ownC (SV.bsl nm off n) h := rfl
theorem dnl_bsl  (nm : Nat) (off : Nat) (n : Nat) : dnl (SV.bsl nm off n) = dnl1 (SV.bsl nm off n) := rfl
theorem isN_mapp  (nm : Nat) : isN (SV.mapp nm) = none := rfl
theorem ownC_mapp  (nm : Nat) (h : HS) : ownC (SV.mapp nm) h = ((SV.mapp nm), h) := rfl
theorem ownS_mapp  (nm : Nat) (h : HS) : ownS (SV.mapp nm) h = ownC (SV.mapp nm) h := rfl
theorem dnl_mapp  (nm : Nat) : dnl (SV.mapp nm) = dnl1 (SV.mapp nm) := rfl
theorem ownS_vcut (id ver sz lo n : Nat) (x : Bool) (h : HS) : ownS (.vcut id ver sz lo n x) h = rebV id ver sz lo n x h (getV h.vecs id) := rfl
theorem ownC_agg (l : List SV) (h : HS) : ownC (.agg l) h = (.agg (ownN l h).1, (ownN l h).2) := rfl
theorem ownC_nils (ety nsz : Nat) (h : HS) : ownC (.nils ety nsz) h = (.vec (lenV h.vecs) 0, { h with vecs := snocV h.vecs (.live 0 ety nsz 0 (fun _ _ => .any)) }) := rfl
theorem dnl_agg (l : List SV) : dnl (.agg l) = .agg (mapF dnl1 l) := rfl
theorem frzF_nils (d : Nat) (h : HS) (ety nsz : Nat) : frzF (d + 1) h (.nils ety nsz) = .row 0 nsz (fun _ _ => .any) := rfl
theorem rLen_nils (e : Nat) (agg ifc : Bool) (size bytes : Nat) (zero : List ZC) (eq : Option (List LK)) (fag : List Bool) (mt : List (String × Nat)) (h : HS) (a b : Nat) : rLen ⟨.slice e, agg, ifc, size, bytes, zero, eq, fag, mt⟩ h (.nils a b) = .val True (.int .i64 0) h := rfl
theorem rNil_ne (h : HS) (e : Nat) (agg ifc : Bool) (size bytes : Nat) (zero : List ZC) (eq : Option (List LK)) (fag : List Bool) (mt : List (String × Nat)) (a b : Nat) : rEqNil (some ⟨.slice e, agg, ifc, size, bytes, zero, eq, fag, mt⟩) .eql (.nils a b) h = .val True (.bool true) h := rfl
theorem rNil_nn (h : HS) (e : Nat) (agg ifc : Bool) (size bytes : Nat) (zero : List ZC) (eq : Option (List LK)) (fag : List Bool) (mt : List (String × Nat)) (a b : Nat) : rEqNil (some ⟨.slice e, agg, ifc, size, bytes, zero, eq, fag, mt⟩) .neq (.nils a b) h = .val True (.bool false) h := rfl
theorem oMake_s (T : Nat → Option TI) (l c : SV) (h : HS) (e : Nat) (agg ifc : Bool) (size bytes : Nat) (zero : List ZC) (eq : Option (List LK)) (fag : List Bool) (mt : List (String × Nat)) : oMake T l c h (some ⟨.slice e, agg, ifc, size, bytes, zero, eq, fag, mt⟩) = oMake2 (T e) e l c h := rfl
theorem sliC_t (se id ver sz lo0 n : Nat) (lo hi : Option SV) (m : SV) (h : HS) : sliC se id ver sz lo0 n true lo hi (some m) h = cutR (se = sz) id ver sz lo0 n h (intO 0 lo) (intO (n : Int) hi) (some m) := rfl
theorem sliC_f (se id ver sz lo0 n : Nat) (lo hi mx : Option SV) (h : HS) : sliC se id ver sz lo0 n false lo hi mx h = cutR (se = sz) id ver sz lo0 n h (intO 0 lo) (intO (n : Int) hi) mx := rfl
def cIndex (se : Nat) (h : HS) (id ver sz lo n : Nat) (i : Int) : Vc → Res
  | .live ver' _ sz' _ _ => .val (ver = ver' ∧ sz = sz' ∧ se = sz ∧ 0 ≤ i ∧ i < (n : Int)) (.vptr id ver sz (lo + i.toNat) 0) h
  | .dead => .bad
theorem rIndex_c (e : Nat) (agg ifc : Bool) (size bytes : Nat) (zero : List ZC) (eq : Option (List LK)) (fag : List Bool) (mt : List (String × Nat)) (se : Nat) (h : HS) (id ver sz lo n : Nat) (x : Bool) (k : IntKind) (i : Int) : rIndex ⟨.slice e, agg, ifc, size, bytes, zero, eq, fag, mt⟩ se h (.vcut id ver sz lo n x) (.int k i) = cIndex se h id ver sz lo n i (getV h.vecs id) := rfl
theorem rIndex_b (e : Nat) (agg ifc : Bool) (size bytes : Nat) (zero : List ZC) (eq : Option (List LK)) (fag : List Bool) (mt : List (String × Nat)) (se : Nat) (h : HS) (nm off n : Nat) (k : IntKind) (i : Int) : rIndex ⟨.slice e, agg, ifc, size, bytes, zero, eq, fag, mt⟩ se h (.bsl nm off n) (.int k i) = .val (se = 1 ∧ 0 ≤ i ∧ i < (n : Int)) (.ptr nm (off + i.toNat)) h := rfl
theorem rLen_c (e : Nat) (agg ifc : Bool) (size bytes : Nat) (zero : List ZC) (eq : Option (List LK)) (fag : List Bool) (mt : List (String × Nat)) (h : HS) (id ver sz lo n : Nat) (x : Bool) : rLen ⟨.slice e, agg, ifc, size, bytes, zero, eq, fag, mt⟩ h (.vcut id ver sz lo n x) = .val True (.int .i64 (n : Int)) h := rfl
theorem rLen_b (e : Nat) (agg ifc : Bool) (size bytes : Nat) (zero : List ZC) (eq : Option (List LK)) (fag : List Bool) (mt : List (String × Nat)) (h : HS) (nm off n : Nat) : rLen ⟨.slice e, agg, ifc, size, bytes, zero, eq, fag, mt⟩ h (.bsl nm off n) = .val True (.int .i64 (n : Int)) h := rfl
theorem oIndex_s (T : Nat → Option TI) (h : HS) (x y : SV) (e : Nat) (agg ifc : Bool) (size bytes : Nat) (zero : List ZC) (eq : Option (List LK)) (fag : List Bool) (mt : List (String × Nat)) : oIndex T h x y (some ⟨.slice e, agg, ifc, size, bytes, zero, eq, fag, mt⟩) = oIndex2 (T e) ⟨.slice e, agg, ifc, size, bytes, zero, eq, fag, mt⟩ h x y := rfl
theorem oIndex_a (T : Nat → Option TI) (h : HS) (x y : SV) (n e : Nat) (agg ifc : Bool) (size bytes : Nat) (zero : List ZC) (eq : Option (List LK)) (fag : List Bool) (mt : List (String × Nat)) : oIndex T h x y (some ⟨.array n e, agg, ifc, size, bytes, zero, eq, fag, mt⟩) = oIndex2 (T e) ⟨.array n e, agg, ifc, size, bytes, zero, eq, fag, mt⟩ h x y := rfl
theorem rIndex_r (e : Nat) (agg ifc : Bool) (size bytes : Nat) (zero : List ZC) (eq : Option (List LK)) (fag : List Bool) (mt : List (String × Nat)) (se : Nat) (h : HS) (n sz : Nat) (f : Nat → Nat → SV) (k : IntKind) (i : Int) : rIndex ⟨.slice e, agg, ifc, size, bytes, zero, eq, fag, mt⟩ se h (.row n sz f) (.int k i) = .val (se = sz ∧ 0 ≤ i ∧ i < (n : Int)) (.rptr sz (f i.toNat)) h := rfl
def vIndex (se : Nat) (h : HS) (id ver : Nat) (i : Int) : Vc → Res
  | .live ver' _ sz n _ => .val (ver = ver' ∧ se = sz ∧ 0 ≤ i ∧ i < (n : Int)) (.vptr id ver sz i.toNat 0) h
  | .dead => .bad
theorem putB_c (b v : Nat → Nat) (k : Nat) (bs : List Nat) (h : List Blk) (x : Blk) (l : List Blk) : putB b v (k :: bs) h (x :: l) = putB b v bs (setB h k (renK b v x)) l := rfl
theorem putV_c (b v : Nat → Nat) (k : Nat) (vs : List Nat) (h : List Vc) (x : Vc) (l : List Vc) : putV b v (k :: vs) h (x :: l) = putV b v vs (setV h k (renC b v x)) l := rfl
theorem putB_n (b v : Nat → Nat) (h l : List Blk) : putB b v [] h l = h := rfl
theorem putV_n (b v : Nat → Nat) (h l : List Vc) : putV b v [] h l = h := rfl
theorem rIndex_v (e : Nat) (agg ifc : Bool) (size bytes : Nat) (zero : List ZC) (eq : Option (List LK)) (fag : List Bool) (mt : List (String × Nat)) (se : Nat) (h : HS) (id ver : Nat) (k : IntKind) (i : Int) : rIndex ⟨.slice e, agg, ifc, size, bytes, zero, eq, fag, mt⟩ se h (.vec id ver) (.int k i) = vIndex se h id ver i (getV h.vecs id) := rfl
theorem rIndex_a (n e : Nat) (agg ifc : Bool) (size bytes : Nat) (zero : List ZC) (eq : Option (List LK)) (fag : List Bool) (mt : List (String × Nat)) (se : Nat) (h : HS) (nm off : Nat) (k : IntKind) (i : Int) : rIndex ⟨.array n e, agg, ifc, size, bytes, zero, eq, fag, mt⟩ se h (.ptr nm off) (.int k i) = .val (0 ≤ i ∧ i < (n : Int)) (.ptr nm (off + i.toNat * se)) h := rfl
theorem rLen_r (e : Nat) (agg ifc : Bool) (size bytes : Nat) (zero : List ZC) (eq : Option (List LK)) (fag : List Bool) (mt : List (String × Nat)) (h : HS) (n sz : Nat) (f : Nat → Nat → SV) : rLen ⟨.slice e, agg, ifc, size, bytes, zero, eq, fag, mt⟩ h (.row n sz f) = .val True (.int .i64 (n : Int)) h := rfl
def vLen (h : HS) (ver : Nat) : Vc → Res
  | .live ver' _ _ n _ => .val (ver = ver') (.int .i64 (n : Int)) h
  | .dead => .bad
theorem rLen_v (e : Nat) (agg ifc : Bool) (size bytes : Nat) (zero : List ZC) (eq : Option (List LK)) (fag : List Bool) (mt : List (String × Nat)) (h : HS) (id ver : Nat) : rLen ⟨.slice e, agg, ifc, size, bytes, zero, eq, fag, mt⟩ h (.vec id ver) = vLen h ver (getV h.vecs id) := rfl
theorem rConvT_i (T : Nat → Option TI) (ts : TI) (kd : IntKind) (agg ifc : Bool) (size bytes : Nat) (zero : List ZC) (eq : Option (List LK)) (fag : List Bool) (mt : List (String × Nat)) (x : SV) (h : HS) : rConvT T ts ⟨.int kd, agg, ifc, size, bytes, zero, eq, fag, mt⟩ x h = rConv ⟨.int kd, agg, ifc, size, bytes, zero, eq, fag, mt⟩ x h := rfl
theorem rConvT_s (T : Nat → Option TI) (e : Nat) (agg ifc : Bool) (size bytes : Nat) (zero : List ZC) (eq : Option (List LK)) (fag : List Bool) (mt : List (String × Nat)) (k1 : Bool) (k2 : Bool) (k3 k4 : Nat) (k5 : List ZC) (k6 : Option (List LK)) (k7 : List Bool) (k8 : List (String × Nat)) (x : SV) (h : HS) : rConvT T ⟨.slice e, agg, ifc, size, bytes, zero, eq, fag, mt⟩ ⟨.str, k1, k2, k3, k4, k5, k6, k7, k8⟩ x h = cvU x h (T e) := rfl
theorem cvU_8 (agg ifc : Bool) (size bytes : Nat) (zero : List ZC) (eq : Option (List LK)) (fag : List Bool) (mt : List (String × Nat)) (x : SV) (h : HS) : cvU x h (some ⟨.int .u8, agg, ifc, size, bytes, zero, eq, fag, mt⟩) = rConvB x h := rfl
theorem oIdx_str (T : Nat → Option TI) (x y : SV) (h : HS) (agg ifc : Bool) (size bytes : Nat) (zero : List ZC) (eq : Option (List LK)) (fag : List Bool) (mt : List (String × Nat)) : oIdx T x y h (some ⟨.str, agg, ifc, size, bytes, zero, eq, fag, mt⟩) = rIdxS x y h := rfl
theorem rIdxS_e (s : ByteArray) (k : IntKind) (i : Int) (h : HS) : rIdxS (.str s) (.int k i) h = .val (0 ≤ i ∧ i < (s.size : Int)) (.int .u8 (strAt s i.toNat)) h := rfl
theorem rBin2_str (ti : Option TI) (c : Bool) (op : BinOp) (x y : ByteArray) (h : HS) : rBin2 ti c op (.str x) (.str y) h = neO op (x.toList == y.toList) h := rfl
theorem rConv_i (kd : IntKind) (agg ifc : Bool) (size bytes : Nat) (zero : List ZC) (eq : Option (List LK)) (fag : List Bool) (mt : List (String × Nat)) (k : IntKind) (n : Int) (h : HS) : rConv ⟨.int kd, agg, ifc, size, bytes, zero, eq, fag, mt⟩ (.int k n) h = .val True (.int kd (kd.wrap n)) h := rfl
theorem rSlice_a (e : Nat) (agg ifc : Bool) (size bytes : Nat) (zero : List ZC) (eq : Option (List LK)) (fag : List Bool) (mt : List (String × Nat)) (n sz : Nat) (f : Nat → Nat → SV) (k1 : IntKind) (l : Int) (k2 : IntKind) (u : Int) (h : HS) : rSlice ⟨.slice e, agg, ifc, size, bytes, zero, eq, fag, mt⟩ (.row n sz f) (some (.int k1 l)) (some (.int k2 u)) h = .val (0 ≤ l ∧ l ≤ u ∧ u ≤ (n : Int)) (.row (u.toNat - l.toNat) sz (fun i j => f (l.toNat + i) j)) h := rfl
theorem rSlice_b (e : Nat) (agg ifc : Bool) (size bytes : Nat) (zero : List ZC) (eq : Option (List LK)) (fag : List Bool) (mt : List (String × Nat)) (n sz : Nat) (f : Nat → Nat → SV) (k1 : IntKind) (l : Int)  (h : HS) : rSlice ⟨.slice e, agg, ifc, size, bytes, zero, eq, fag, mt⟩ (.row n sz f) (some (.int k1 l)) (none) h = .val (0 ≤ l ∧ l ≤ (n : Int)) (.row (n - l.toNat) sz (fun i j => f (l.toNat + i) j)) h := rfl
theorem rSlice_c (e : Nat) (agg ifc : Bool) (size bytes : Nat) (zero : List ZC) (eq : Option (List LK)) (fag : List Bool) (mt : List (String × Nat)) (n sz : Nat) (f : Nat → Nat → SV) (k2 : IntKind) (u : Int) (h : HS) : rSlice ⟨.slice e, agg, ifc, size, bytes, zero, eq, fag, mt⟩ (.row n sz f) (none) (some (.int k2 u)) h = .val (0 ≤ u ∧ u ≤ (n : Int)) (.row u.toNat sz f) h := rfl
def bMv2 (o : Option TI) (e : Nat) (h : HS) : Res := match o with | some te => .val (0 < te.size) (.vec (lenV h.vecs) 0) { h with vecs := snocV h.vecs (.live 0 e te.size 0 (fun _ _ => .any)) } | none => .bad
def bMv (T : Nat → Option TI) (h : HS) : Option TI → Res
  | some { kind := .slice e, .. } => bMv2 (T e) e h
  | _ => .val True (.row 0 1 (fun _ _ => .any)) h
theorem rMove_nil (T : Nat → Option TI) (t : List SV) (h : HS) (ty : TypeId) : rMove T t h ty (.const (.slice none 0 0)) = bMv T h (T ty) := by
  rw [rMove.eq_1]; unfold bMv bMv2
  cases T ty with
  | none => rfl
  | some ti => cases ti; rename_i kk _ _ _ _ _ _ _; cases kk <;> rfl
theorem rMove_tmp (T : Nat → Option TI) (t : List SV) (h : HS) (ty : TypeId) (i : Nat) : rMove T t h ty (.tmp i) = .val True (nth t i) h := rfl
theorem rMove_func (T : Nat → Option TI) (t : List SV) (h : HS) (ty : TypeId) (i : Nat) : rMove T t h ty (.func i) = .val True (.func i []) h := rfl
theorem rMove_int (T : Nat → Option TI) (t : List SV) (h : HS) (ty : TypeId) (k : IntKind) (n : Int) : rMove T t h ty (.const (.int k n)) = .val True (.int k n) h := rfl
theorem svC_int (k : IntKind) (n : Int) : svC (.int k n) = .int k n := rfl
theorem rMove_bool (T : Nat → Option TI) (t : List SV) (h : HS) (ty : TypeId) (b : Bool) : rMove T t h ty (.const (.bool b)) = .val True (.bool b) h := rfl
theorem svC_bool (b : Bool) : svC (.bool b) = .bool b := rfl
theorem rMove_string (T : Nat → Option TI) (t : List SV) (h : HS) (ty : TypeId) (b : ByteArray) : rMove T t h ty (.const (.string b)) = .val True (.str b) h := rfl
theorem svC_string (b : ByteArray) : svC (.string b) = .str b := rfl
theorem rMove_nilf (T : Nat → Option TI) (t : List SV) (h : HS) (ty : TypeId) : rMove T t h ty (.const (.nilFunc)) = .val True .nilf h := rfl
theorem svC_nilf : svC (.nilFunc) = .nilf := rfl
theorem rMove_nili (T : Nat → Option TI) (t : List SV) (h : HS) (ty : TypeId) : rMove T t h ty (.const (.nilIface)) = .val True .nili h := rfl
theorem svC_nili : svC (.nilIface) = .nili := rfl
theorem rMove_nilp (T : Nat → Option TI) (t : List SV) (h : HS) (ty : TypeId) : rMove T t h ty (.const (.pointer none)) = .val True .nilp h := rfl
theorem svC_nilp : svC (.pointer none) = .nilp := rfl
theorem svC_nils : svC (.slice none 0 0) = .row 0 1 (fun _ _ => .any) := rfl
theorem rMove_agg (T : Nat → Option TI) (t : List SV) (h : HS) (ty : TypeId) (cs : Array Value) : rMove T t h ty (.const (.agg cs)) = .val True (svC (.agg cs)) h := rfl
theorem isConst_tmp (i : Nat) : isConst (.tmp i) = false := rfl
theorem isConst_func (i : Nat) : isConst (.func i) = false := rfl
theorem frzF_any (d : Nat) (h : HS) : frzF (d + 1) h SV.any = SV.any := rfl
theorem Fl1_any  : Fl1 SV.any = Sc SV.any := rfl
theorem Fl_any  : Fl SV.any = Fl1 SV.any := rfl
theorem OwnL_any (h : HS) (ty : TypeId) (x : SV) (us vs : List SV) : OwnL h ty (x :: us) (SV.any :: vs) = (x = SV.any ∧ Fl1 SV.any ∧ OwnL h ty us vs) := rfl
theorem takeL_any (M : Nat) (ty : TypeId) (vs : List SV) : takeL M ty (SV.any :: vs) = (SV.any :: (takeL M ty vs).1, (takeL M ty vs).2) := rfl
theorem OwnT_any (h : HS) (ty : TypeId) (n1 sz1 : Nat) (f1 : Nat → Nat → SV) : OwnT h ty SV.any (.row n1 sz1 f1) = IsVec h ty n1 sz1 f1 SV.any := rfl
theorem IsVec_any (h : HS) (ty : TypeId) (n1 sz1 : Nat) (f1 : Nat → Nat → SV) : IsVec h ty n1 sz1 f1 SV.any = False := rfl
theorem fz0_any (h : HS) (u : SV) : fz0 h u SV.any = (u = SV.any ∧ Sc SV.any) := rfl
theorem fz1_any (h : HS) (u : SV) : fz1 h u SV.any = fz0 h u SV.any := rfl
theorem FzT_any (h : HS) (u : SV) : FzT h u SV.any = fz1 h u SV.any := rfl
theorem cellsOf_int  (k : IntKind) (n : Int) : cellsOf (SV.int k n) = some [(SV.int k n)] := rfl
theorem frzF_int (d : Nat) (h : HS) (k : IntKind) (n : Int) : frzF (d + 1) h (SV.int k n) = (SV.int k n) := rfl
theorem Fl1_int  (k : IntKind) (n : Int) : Fl1 (SV.int k n) = Sc (SV.int k n) := rfl
theorem Fl_int  (k : IntKind) (n : Int) : Fl (SV.int k n) = Fl1 (SV.int k n) := rfl
theorem OwnL_int (h : HS) (ty : TypeId) (x : SV) (us vs : List SV) (k : IntKind) (n : Int) : OwnL h ty (x :: us) ((SV.int k n) :: vs) = (x = (SV.int k n) ∧ Fl1 (SV.int k n) ∧ OwnL h ty us vs) := rfl
theorem takeL_int (M : Nat) (ty : TypeId) (vs : List SV) (k : IntKind) (n : Int) : takeL M ty ((SV.int k n) :: vs) = ((SV.int k n) :: (takeL M ty vs).1, (takeL M ty vs).2) := rfl
theorem OwnT_int (h : HS) (ty : TypeId) (k : IntKind) (n : Int) (n1 sz1 : Nat) (f1 : Nat → Nat → SV) : OwnT h ty (SV.int k n) (.row n1 sz1 f1) = IsVec h ty n1 sz1 f1 (SV.int k n) := rfl
theorem IsVec_int (h : HS) (ty : TypeId) (k : IntKind) (n : Int) (n1 sz1 : Nat) (f1 : Nat → Nat → SV) : IsVec h ty n1 sz1 f1 (SV.int k n) = False := rfl
theorem fz0_int (h : HS) (u : SV) (k : IntKind) (n : Int) : fz0 h u (SV.int k n) = (u = (SV.int k n) ∧ Sc (SV.int k n)) := rfl
theorem fz1_int (h : HS) (u : SV) (k : IntKind) (n : Int) : fz1 h u (SV.int k n) = fz0 h u (SV.int k n) := rfl
theorem FzT_int (h : HS) (u : SV) (k : IntKind) (n : Int) : FzT h u (SV.int k n) = fz1 h u (SV.int k n) := rfl
theorem subX_int (x : SV) (k : IntKind) (n : Int) : subX x (SV.int k n) = (x = (SV.int k n)) := rfl
theorem cellsOf_bool  (b : Bool) : cellsOf (SV.bool b) = some [(SV.bool b)] := rfl
theorem frzF_bool (d : Nat) (h : HS) (b : Bool) : frzF (d + 1) h (SV.bool b) = (SV.bool b) := rfl
theorem Fl1_bool  (b : Bool) : Fl1 (SV.bool b) = Sc (SV.bool b) := rfl
theorem Fl_bool  (b : Bool) : Fl (SV.bool b) = Fl1 (SV.bool b) := rfl
theorem OwnL_bool (h : HS) (ty : TypeId) (x : SV) (us vs : List SV) (b : Bool) : OwnL h ty (x :: us) ((SV.bool b) :: vs) = (x = (SV.bool b) ∧ Fl1 (SV.bool b) ∧ OwnL h ty us vs) := rfl
theorem takeL_bool (M : Nat) (ty : TypeId) (vs : List SV) (b : Bool) : takeL M ty ((SV.bool b) :: vs) = ((SV.bool b) :: (takeL M ty vs).1, (takeL M ty vs).2) := rfl
theorem OwnT_bool (h : HS) (ty : TypeId) (b : Bool) (n1 sz1 : Nat) (f1 : Nat → Nat → SV) : OwnT h ty (SV.bool b) (.row n1 sz1 f1) = IsVec h ty n1 sz1 f1 (SV.bool b) := rfl
theorem IsVec_bool (h : HS) (ty : TypeId) (b : Bool) (n1 sz1 : Nat) (f1 : Nat → Nat → SV) : IsVec h ty n1 sz1 f1 (SV.bool b) = False := rfl
theorem fz0_bool (h : HS) (u : SV) (b : Bool) : fz0 h u (SV.bool b) = (u = (SV.bool b) ∧ Sc (SV.bool b)) := rfl
theorem fz1_bool (h : HS) (u : SV) (b : Bool) : fz1 h u (SV.bool b) = fz0 h u (SV.bool b) := rfl
theorem FzT_bool (h : HS) (u : SV) (b : Bool) : FzT h u (SV.bool b) = fz1 h u (SV.bool b) := rfl
theorem subX_bool (x : SV) (b : Bool) : subX x (SV.bool b) = (x = (SV.bool b)) := rfl
theorem cellsOf_str  (s : ByteArray) : cellsOf (SV.str s) = some [(SV.str s)] := rfl
theorem frzF_str (d : Nat) (h : HS) (s : ByteArray) : frzF (d + 1) h (SV.str s) = (SV.str s) := rfl
theorem Fl1_str  (s : ByteArray) : Fl1 (SV.str s) = Sc (SV.str s) := rfl
theorem Fl_str  (s : ByteArray) : Fl (SV.str s) = Fl1 (SV.str s) := rfl
theorem OwnL_str (h : HS) (ty : TypeId) (x : SV) (us vs : List SV) (s : ByteArray) : OwnL h ty (x :: us) ((SV.str s) :: vs) = (x = (SV.str s) ∧ Fl1 (SV.str s) ∧ OwnL h ty us vs) := rfl
theorem takeL_str (M : Nat) (ty : TypeId) (vs : List SV) (s : ByteArray) : takeL M ty ((SV.str s) :: vs) = ((SV.str s) :: (takeL M ty vs).1, (takeL M ty vs).2) := rfl
theorem OwnT_str (h : HS) (ty : TypeId) (s : ByteArray) (n1 sz1 : Nat) (f1 : Nat → Nat → SV) : OwnT h ty (SV.str s) (.row n1 sz1 f1) = IsVec h ty n1 sz1 f1 (SV.str s) := rfl
theorem IsVec_str (h : HS) (ty : TypeId) (s : ByteArray) (n1 sz1 : Nat) (f1 : Nat → Nat → SV) : IsVec h ty n1 sz1 f1 (SV.str s) = False := rfl
theorem fz0_str (h : HS) (u : SV) (s : ByteArray) : fz0 h u (SV.str s) = (u = (SV.str s) ∧ Sc (SV.str s)) := rfl
theorem fz1_str (h : HS) (u : SV) (s : ByteArray) : fz1 h u (SV.str s) = fz0 h u (SV.str s) := rfl
theorem FzT_str (h : HS) (u : SV) (s : ByteArray) : FzT h u (SV.str s) = fz1 h u (SV.str s) := rfl
theorem subX_str (x : SV) (s : ByteArray) : subX x (SV.str s) = (x = (SV.str s)) := rfl
theorem cellsOf_ptr  (nm : Nat) (off : Nat) : cellsOf (SV.ptr nm off) = some [(SV.ptr nm off)] := rfl
theorem Fl1_ptr  (nm : Nat) (off : Nat) : Fl1 (SV.ptr nm off) = Sc (SV.ptr nm off) := rfl
theorem Fl_ptr  (nm : Nat) (off : Nat) : Fl (SV.ptr nm off) = Fl1 (SV.ptr nm off) := rfl
theorem OwnL_ptr (h : HS) (ty : TypeId) (x : SV) (us vs : List SV) (nm : Nat) (off : Nat) : OwnL h ty (x :: us) ((SV.ptr nm off) :: vs) = (x = (SV.ptr nm off) ∧ Fl1 (SV.ptr nm off) ∧ OwnL h ty us vs) := rfl
theorem takeL_ptr (M : Nat) (ty : TypeId) (vs : List SV) (nm : Nat) (off : Nat) : takeL M ty ((SV.ptr nm off) :: vs) = ((SV.ptr nm off) :: (takeL M ty vs).1, (takeL M ty vs).2) := rfl
theorem OwnT_ptr (h : HS) (ty : TypeId) (nm : Nat) (off : Nat) (n1 sz1 : Nat) (f1 : Nat → Nat → SV) : OwnT h ty (SV.ptr nm off) (.row n1 sz1 f1) = IsVec h ty n1 sz1 f1 (SV.ptr nm off) := rfl
theorem IsVec_ptr (h : HS) (ty : TypeId) (nm : Nat) (off : Nat) (n1 sz1 : Nat) (f1 : Nat → Nat → SV) : IsVec h ty n1 sz1 f1 (SV.ptr nm off) = False := rfl
theorem fz0_ptr (h : HS) (u : SV) (nm : Nat) (off : Nat) : fz0 h u (SV.ptr nm off) = (u = (SV.ptr nm off) ∧ Sc (SV.ptr nm off)) := rfl
theorem fz1_ptr (h : HS) (u : SV) (nm : Nat) (off : Nat) : fz1 h u (SV.ptr nm off) = fz0 h u (SV.ptr nm off) := rfl
theorem FzT_ptr (h : HS) (u : SV) (nm : Nat) (off : Nat) : FzT h u (SV.ptr nm off) = fz1 h u (SV.ptr nm off) := rfl
theorem subX_ptr (x : SV) (nm : Nat) (off : Nat) : subX x (SV.ptr nm off) = (x = (SV.ptr nm off)) := rfl
theorem cellsOf_nilp  : cellsOf SV.nilp = some [SV.nilp] := rfl
theorem frzF_nilp (d : Nat) (h : HS) : frzF (d + 1) h SV.nilp = SV.nilp := rfl
theorem Fl1_nilp  : Fl1 SV.nilp = Sc SV.nilp := rfl
theorem Fl_nilp  : Fl SV.nilp = Fl1 SV.nilp := rfl
theorem OwnL_nilp (h : HS) (ty : TypeId) (x : SV) (us vs : List SV) : OwnL h ty (x :: us) (SV.nilp :: vs) = (x = SV.nilp ∧ Fl1 SV.nilp ∧ OwnL h ty us vs) := rfl
theorem takeL_nilp (M : Nat) (ty : TypeId) (vs : List SV) : takeL M ty (SV.nilp :: vs) = (SV.nilp :: (takeL M ty vs).1, (takeL M ty vs).2) := rfl
theorem OwnT_nilp (h : HS) (ty : TypeId) (n1 sz1 : Nat) (f1 : Nat → Nat → SV) : OwnT h ty SV.nilp (.row n1 sz1 f1) = IsVec h ty n1 sz1 f1 SV.nilp := rfl
theorem IsVec_nilp (h : HS) (ty : TypeId) (n1 sz1 : Nat) (f1 : Nat → Nat → SV) : IsVec h ty n1 sz1 f1 SV.nilp = False := rfl
theorem fz0_nilp (h : HS) (u : SV) : fz0 h u SV.nilp = (u = SV.nilp ∧ Sc SV.nilp) := rfl
theorem fz1_nilp (h : HS) (u : SV) : fz1 h u SV.nilp = fz0 h u SV.nilp := rfl
theorem FzT_nilp (h : HS) (u : SV) : FzT h u SV.nilp = fz1 h u SV.nilp := rfl
theorem subX_nilp (x : SV) : subX x SV.nilp = (x = SV.nilp) := rfl
theorem cellsOf_nils  (ety : Nat) (nsz : Nat) : cellsOf (SV.nils ety nsz) = some [(SV.nils ety nsz)] := rfl
theorem Fl1_nils  (ety : Nat) (nsz : Nat) : Fl1 (SV.nils ety nsz) = Sc (SV.nils ety nsz) := rfl
theorem Fl_nils  (ety : Nat) (nsz : Nat) : Fl (SV.nils ety nsz) = Fl1 (SV.nils ety nsz) := rfl
theorem OwnL_nils (h : HS) (ty : TypeId) (x : SV) (us vs : List SV) (ety : Nat) (nsz : Nat) : OwnL h ty (x :: us) ((SV.nils ety nsz) :: vs) = (x = (SV.nils ety nsz) ∧ Fl1 (SV.nils ety nsz) ∧ OwnL h ty us vs) := rfl
theorem takeL_nils (M : Nat) (ty : TypeId) (vs : List SV) (ety : Nat) (nsz : Nat) : takeL M ty ((SV.nils ety nsz) :: vs) = ((SV.nils ety nsz) :: (takeL M ty vs).1, (takeL M ty vs).2) := rfl
theorem OwnT_nils (h : HS) (ty : TypeId) (ety : Nat) (nsz : Nat) (n1 sz1 : Nat) (f1 : Nat → Nat → SV) : OwnT h ty (SV.nils ety nsz) (.row n1 sz1 f1) = IsVec h ty n1 sz1 f1 (SV.nils ety nsz) := rfl
theorem IsVec_nils (h : HS) (ty : TypeId) (ety : Nat) (nsz : Nat) (n1 sz1 : Nat) (f1 : Nat → Nat → SV) : IsVec h ty n1 sz1 f1 (SV.nils ety nsz) = False := rfl
theorem fz0_nils (h : HS) (u : SV) (ety : Nat) (nsz : Nat) : fz0 h u (SV.nils ety nsz) = (u = (SV.nils ety nsz) ∧ Sc (SV.nils ety nsz)) := rfl
theorem fz1_nils (h : HS) (u : SV) (ety : Nat) (nsz : Nat) : fz1 h u (SV.nils ety nsz) = fz0 h u (SV.nils ety nsz) := rfl
theorem FzT_nils (h : HS) (u : SV) (ety : Nat) (nsz : Nat) : FzT h u (SV.nils ety nsz) = fz1 h u (SV.nils ety nsz) := rfl
theorem subX_nils (x : SV) (ety : Nat) (nsz : Nat) : subX x (SV.nils ety nsz) = (x = (SV.nils ety nsz)) := rfl
theorem cellsOf_rptr  (sz : Nat) (f : Nat → SV) : cellsOf (SV.rptr sz f) = some [(SV.rptr sz f)] := rfl
theorem frzF_rptr (d : Nat) (h : HS) (sz : Nat) (f : Nat → SV) : frzF (d + 1) h (SV.rptr sz f) = (SV.rptr sz f) := rfl
theorem Fl1_rptr  (sz : Nat) (f : Nat → SV) : Fl1 (SV.rptr sz f) = Sc (SV.rptr sz f) := rfl
theorem Fl_rptr  (sz : Nat) (f : Nat → SV) : Fl (SV.rptr sz f) = Fl1 (SV.rptr sz f) := rfl
theorem OwnL_rptr (h : HS) (ty : TypeId) (x : SV) (us vs : List SV) (sz : Nat) (f : Nat → SV) : OwnL h ty (x :: us) ((SV.rptr sz f) :: vs) = (x = (SV.rptr sz f) ∧ Fl1 (SV.rptr sz f) ∧ OwnL h ty us vs) := rfl
theorem takeL_rptr (M : Nat) (ty : TypeId) (vs : List SV) (sz : Nat) (f : Nat → SV) : takeL M ty ((SV.rptr sz f) :: vs) = ((SV.rptr sz f) :: (takeL M ty vs).1, (takeL M ty vs).2) := rfl
theorem OwnT_rptr (h : HS) (ty : TypeId) (sz : Nat) (f : Nat → SV) (n1 sz1 : Nat) (f1 : Nat → Nat → SV) : OwnT h ty (SV.rptr sz f) (.row n1 sz1 f1) = IsVec h ty n1 sz1 f1 (SV.rptr sz f) := rfl
theorem IsVec_rptr (h : HS) (ty : TypeId) (sz : Nat) (f : Nat → SV) (n1 sz1 : Nat) (f1 : Nat → Nat → SV) : IsVec h ty n1 sz1 f1 (SV.rptr sz f) = False := rfl
theorem fz0_rptr (h : HS) (u : SV) (sz : Nat) (f : Nat → SV) : fz0 h u (SV.rptr sz f) = (u = (SV.rptr sz f) ∧ Sc (SV.rptr sz f)) := rfl
theorem fz1_rptr (h : HS) (u : SV) (sz : Nat) (f : Nat → SV) : fz1 h u (SV.rptr sz f) = fz0 h u (SV.rptr sz f) := rfl
theorem FzT_rptr (h : HS) (u : SV) (sz : Nat) (f : Nat → SV) : FzT h u (SV.rptr sz f) = fz1 h u (SV.rptr sz f) := rfl
theorem subX_rptr (x : SV) (sz : Nat) (f : Nat → SV) : subX x (SV.rptr sz f) = (x = (SV.rptr sz f)) := rfl
theorem cellsOf_row  (n : Nat) (sz : Nat) (f : Nat → Nat → SV) : cellsOf (SV.row n sz f) = some [(SV.row n sz f)] := rfl
theorem frzF_row (d : Nat) (h : HS) (n : Nat) (sz : Nat) (f : Nat → Nat → SV) : frzF (d + 1) h (SV.row n sz f) = (SV.row n sz f) := rfl
theorem Fl1_row  (n : Nat) (sz : Nat) (f : Nat → Nat → SV) : Fl1 (SV.row n sz f) = Sc (SV.row n sz f) := rfl
theorem Fl_row  (n : Nat) (sz : Nat) (f : Nat → Nat → SV) : Fl (SV.row n sz f) = Fl1 (SV.row n sz f) := rfl
theorem fz1_row (h : HS) (u : SV) (n : Nat) (sz : Nat) (f : Nat → Nat → SV) : fz1 h u (SV.row n sz f) = fz0 h u (SV.row n sz f) := rfl
theorem FzT_row (h : HS) (u : SV) (n : Nat) (sz : Nat) (f : Nat → Nat → SV) : FzT h u (SV.row n sz f) = fz1 h u (SV.row n sz f) := rfl
theorem cellsOf_vec  (id : Nat) (ver : Nat) : cellsOf (SV.vec id ver) = some [(SV.vec id ver)] := rfl
theorem Fl1_vec  (id : Nat) (ver : Nat) : Fl1 (SV.vec id ver) = Sc (SV.vec id ver) := rfl
theorem Fl_vec  (id : Nat) (ver : Nat) : Fl (SV.vec id ver) = Fl1 (SV.vec id ver) := rfl
theorem OwnL_vec (h : HS) (ty : TypeId) (x : SV) (us vs : List SV) (id : Nat) (ver : Nat) : OwnL h ty (x :: us) ((SV.vec id ver) :: vs) = (x = (SV.vec id ver) ∧ Fl1 (SV.vec id ver) ∧ OwnL h ty us vs) := rfl
theorem takeL_vec (M : Nat) (ty : TypeId) (vs : List SV) (id : Nat) (ver : Nat) : takeL M ty ((SV.vec id ver) :: vs) = ((SV.vec id ver) :: (takeL M ty vs).1, (takeL M ty vs).2) := rfl
theorem OwnT_vec (h : HS) (ty : TypeId) (id : Nat) (ver : Nat) (n1 sz1 : Nat) (f1 : Nat → Nat → SV) : OwnT h ty (SV.vec id ver) (.row n1 sz1 f1) = IsVec h ty n1 sz1 f1 (SV.vec id ver) := rfl
theorem fz0_vec (h : HS) (u : SV) (id : Nat) (ver : Nat) : fz0 h u (SV.vec id ver) = (u = (SV.vec id ver) ∧ Sc (SV.vec id ver)) := rfl
theorem fz1_vec (h : HS) (u : SV) (id : Nat) (ver : Nat) : fz1 h u (SV.vec id ver) = fz0 h u (SV.vec id ver) := rfl
theorem FzT_vec (h : HS) (u : SV) (id : Nat) (ver : Nat) : FzT h u (SV.vec id ver) = fz1 h u (SV.vec id ver) := rfl
theorem subX_vec (x : SV) (id : Nat) (ver : Nat) : subX x (SV.vec id ver) = (x = (SV.vec id ver)) := rfl
theorem cellsOf_vptr  (id : Nat) (ver : Nat) (sz : Nat) (i : Nat) (off : Nat) : cellsOf (SV.vptr id ver sz i off) = some [(SV.vptr id ver sz i off)] := rfl
theorem frzF_vptr (d : Nat) (h : HS) (id : Nat) (ver : Nat) (sz : Nat) (i : Nat) (off : Nat) : frzF (d + 1) h (SV.vptr id ver sz i off) = (SV.vptr id ver sz i off) := rfl
theorem Fl1_vptr  (id : Nat) (ver : Nat) (sz : Nat) (i : Nat) (off : Nat) : Fl1 (SV.vptr id ver sz i off) = Sc (SV.vptr id ver sz i off) := rfl
theorem Fl_vptr  (id : Nat) (ver : Nat) (sz : Nat) (i : Nat) (off : Nat) : Fl (SV.vptr id ver sz i off) = Fl1 (SV.vptr id ver sz i off) := rfl
theorem OwnL_vptr (h : HS) (ty : TypeId) (x : SV) (us vs : List SV) (id : Nat) (ver : Nat) (sz : Nat) (i : Nat) (off : Nat) : OwnL h ty (x :: us) ((SV.vptr id ver sz i off) :: vs) = (x = (SV.vptr id ver sz i off) ∧ Fl1 (SV.vptr id ver sz i off) ∧ OwnL h ty us vs) := rfl
theorem takeL_vptr (M : Nat) (ty : TypeId) (vs : List SV) (id : Nat) (ver : Nat) (sz : Nat) (i : Nat) (off : Nat) : takeL M ty ((SV.vptr id ver sz i off) :: vs) = ((SV.vptr id ver sz i off) :: (takeL M ty vs).1, (takeL M ty vs).2) := rfl
theorem OwnT_vptr (h : HS) (ty : TypeId) (id : Nat) (ver : Nat) (sz : Nat) (i : Nat) (off : Nat) (n1 sz1 : Nat) (f1 : Nat → Nat → SV) : OwnT h ty (SV.vptr id ver sz i off) (.row n1 sz1 f1) = IsVec h ty n1 sz1 f1 (SV.vptr id ver sz i off) := rfl
theorem IsVec_vptr (h : HS) (ty : TypeId) (id : Nat) (ver : Nat) (sz : Nat) (i : Nat) (off : Nat) (n1 sz1 : Nat) (f1 : Nat → Nat → SV) : IsVec h ty n1 sz1 f1 (SV.vptr id ver sz i off) = False := rfl
theorem fz0_vptr (h : HS) (u : SV) (id : Nat) (ver : Nat) (sz : Nat) (i : Nat) (off : Nat) : fz0 h u (SV.vptr id ver sz i off) = (u = (SV.vptr id ver sz i off) ∧ Sc (SV.vptr id ver sz i off)) := rfl
theorem fz1_vptr (h : HS) (u : SV) (id : Nat) (ver : Nat) (sz : Nat) (i : Nat) (off : Nat) : fz1 h u (SV.vptr id ver sz i off) = fz0 h u (SV.vptr id ver sz i off) := rfl
theorem FzT_vptr (h : HS) (u : SV) (id : Nat) (ver : Nat) (sz : Nat) (i : Nat) (off : Nat) : FzT h u (SV.vptr id ver sz i off) = fz1 h u (SV.vptr id ver sz i off) := rfl
theorem subX_vptr (x : SV) (id : Nat) (ver : Nat) (sz : Nat) (i : Nat) (off : Nat) : subX x (SV.vptr id ver sz i off) = (x = (SV.vptr id ver sz i off)) := rfl
theorem cellsOf_func  (g : Nat) (caps : List SV) : cellsOf (SV.func g caps) = some [(SV.func g caps)] := rfl
theorem frzF_func (d : Nat) (h : HS) (g : Nat) (caps : List SV) : frzF (d + 1) h (SV.func g caps) = (SV.func g caps) := rfl
theorem Fl1_func  (g : Nat) (caps : List SV) : Fl1 (SV.func g caps) = Sc (SV.func g caps) := rfl
theorem Fl_func  (g : Nat) (caps : List SV) : Fl (SV.func g caps) = Fl1 (SV.func g caps) := rfl
theorem OwnL_func (h : HS) (ty : TypeId) (x : SV) (us vs : List SV) (g : Nat) (caps : List SV) : OwnL h ty (x :: us) ((SV.func g caps) :: vs) = (x = (SV.func g caps) ∧ Fl1 (SV.func g caps) ∧ OwnL h ty us vs) := rfl
theorem takeL_func (M : Nat) (ty : TypeId) (vs : List SV) (g : Nat) (caps : List SV) : takeL M ty ((SV.func g caps) :: vs) = ((SV.func g caps) :: (takeL M ty vs).1, (takeL M ty vs).2) := rfl
theorem OwnT_func (h : HS) (ty : TypeId) (g : Nat) (caps : List SV) (n1 sz1 : Nat) (f1 : Nat → Nat → SV) : OwnT h ty (SV.func g caps) (.row n1 sz1 f1) = IsVec h ty n1 sz1 f1 (SV.func g caps) := rfl
theorem IsVec_func (h : HS) (ty : TypeId) (g : Nat) (caps : List SV) (n1 sz1 : Nat) (f1 : Nat → Nat → SV) : IsVec h ty n1 sz1 f1 (SV.func g caps) = False := rfl
theorem fz0_func (h : HS) (u : SV) (g : Nat) (caps : List SV) : fz0 h u (SV.func g caps) = (u = (SV.func g caps) ∧ Sc (SV.func g caps)) := rfl
theorem fz1_func (h : HS) (u : SV) (g : Nat) (caps : List SV) : fz1 h u (SV.func g caps) = fz0 h u (SV.func g caps) := rfl
theorem FzT_func (h : HS) (u : SV) (g : Nat) (caps : List SV) : FzT h u (SV.func g caps) = fz1 h u (SV.func g caps) := rfl
theorem subX_func (x : SV) (g : Nat) (caps : List SV) : subX x (SV.func g caps) = (x = (SV.func g caps)) := rfl
theorem cellsOf_nilf  : cellsOf SV.nilf = some [SV.nilf] := rfl
theorem frzF_nilf (d : Nat) (h : HS) : frzF (d + 1) h SV.nilf = SV.nilf := rfl
theorem Fl1_nilf  : Fl1 SV.nilf = Sc SV.nilf := rfl
theorem Fl_nilf  : Fl SV.nilf = Fl1 SV.nilf := rfl
theorem OwnL_nilf (h : HS) (ty : TypeId) (x : SV) (us vs : List SV) : OwnL h ty (x :: us) (SV.nilf :: vs) = (x = SV.nilf ∧ Fl1 SV.nilf ∧ OwnL h ty us vs) := rfl
theorem takeL_nilf (M : Nat) (ty : TypeId) (vs : List SV) : takeL M ty (SV.nilf :: vs) = (SV.nilf :: (takeL M ty vs).1, (takeL M ty vs).2) := rfl
theorem OwnT_nilf (h : HS) (ty : TypeId) (n1 sz1 : Nat) (f1 : Nat → Nat → SV) : OwnT h ty SV.nilf (.row n1 sz1 f1) = IsVec h ty n1 sz1 f1 SV.nilf := rfl
theorem IsVec_nilf (h : HS) (ty : TypeId) (n1 sz1 : Nat) (f1 : Nat → Nat → SV) : IsVec h ty n1 sz1 f1 SV.nilf = False := rfl
theorem fz0_nilf (h : HS) (u : SV) : fz0 h u SV.nilf = (u = SV.nilf ∧ Sc SV.nilf) := rfl
theorem fz1_nilf (h : HS) (u : SV) : fz1 h u SV.nilf = fz0 h u SV.nilf := rfl
theorem FzT_nilf (h : HS) (u : SV) : FzT h u SV.nilf = fz1 h u SV.nilf := rfl
theorem subX_nilf (x : SV) : subX x SV.nilf = (x = SV.nilf) := rfl
theorem cellsOf_iface  (t : TypeId) (v : SV) : cellsOf (SV.iface t v) = some [(SV.iface t v)] := rfl
theorem frzF_iface (d : Nat) (h : HS) (t : TypeId) (v : SV) : frzF (d + 1) h (SV.iface t v) = (SV.iface t v) := rfl
theorem Fl1_iface  (t : TypeId) (v : SV) : Fl1 (SV.iface t v) = Sc (SV.iface t v) := rfl
theorem Fl_iface  (t : TypeId) (v : SV) : Fl (SV.iface t v) = Fl1 (SV.iface t v) := rfl
theorem OwnL_iface (h : HS) (ty : TypeId) (x : SV) (us vs : List SV) (t : TypeId) (v : SV) : OwnL h ty (x :: us) ((SV.iface t v) :: vs) = (x = (SV.iface t v) ∧ Fl1 (SV.iface t v) ∧ OwnL h ty us vs) := rfl
theorem takeL_iface (M : Nat) (ty : TypeId) (vs : List SV) (t : TypeId) (v : SV) : takeL M ty ((SV.iface t v) :: vs) = ((SV.iface t v) :: (takeL M ty vs).1, (takeL M ty vs).2) := rfl
theorem OwnT_iface (h : HS) (ty : TypeId) (t : TypeId) (v : SV) (n1 sz1 : Nat) (f1 : Nat → Nat → SV) : OwnT h ty (SV.iface t v) (.row n1 sz1 f1) = IsVec h ty n1 sz1 f1 (SV.iface t v) := rfl
theorem IsVec_iface (h : HS) (ty : TypeId) (t : TypeId) (v : SV) (n1 sz1 : Nat) (f1 : Nat → Nat → SV) : IsVec h ty n1 sz1 f1 (SV.iface t v) = False := rfl
theorem fz0_iface (h : HS) (u : SV) (t : TypeId) (v : SV) : fz0 h u (SV.iface t v) = (u = (SV.iface t v) ∧ Sc (SV.iface t v)) := rfl
theorem fz1_iface (h : HS) (u : SV) (t : TypeId) (v : SV) : fz1 h u (SV.iface t v) = fz0 h u (SV.iface t v) := rfl
theorem FzT_iface (h : HS) (u : SV) (t : TypeId) (v : SV) : FzT h u (SV.iface t v) = fz1 h u (SV.iface t v) := rfl
theorem subX_iface (x : SV) (t : TypeId) (v : SV) : subX x (SV.iface t v) = (x = (SV.iface t v)) := rfl
theorem cellsOf_nili  : cellsOf SV.nili = some [SV.nili] := rfl
theorem frzF_nili (d : Nat) (h : HS) : frzF (d + 1) h SV.nili = SV.nili := rfl
theorem Fl1_nili  : Fl1 SV.nili = Sc SV.nili := rfl
theorem Fl_nili  : Fl SV.nili = Fl1 SV.nili := rfl
theorem OwnL_nili (h : HS) (ty : TypeId) (x : SV) (us vs : List SV) : OwnL h ty (x :: us) (SV.nili :: vs) = (x = SV.nili ∧ Fl1 SV.nili ∧ OwnL h ty us vs) := rfl
theorem takeL_nili (M : Nat) (ty : TypeId) (vs : List SV) : takeL M ty (SV.nili :: vs) = (SV.nili :: (takeL M ty vs).1, (takeL M ty vs).2) := rfl
theorem OwnT_nili (h : HS) (ty : TypeId) (n1 sz1 : Nat) (f1 : Nat → Nat → SV) : OwnT h ty SV.nili (.row n1 sz1 f1) = IsVec h ty n1 sz1 f1 SV.nili := rfl
theorem IsVec_nili (h : HS) (ty : TypeId) (n1 sz1 : Nat) (f1 : Nat → Nat → SV) : IsVec h ty n1 sz1 f1 SV.nili = False := rfl
theorem fz0_nili (h : HS) (u : SV) : fz0 h u SV.nili = (u = SV.nili ∧ Sc SV.nili) := rfl
theorem fz1_nili (h : HS) (u : SV) : fz1 h u SV.nili = fz0 h u SV.nili := rfl
theorem FzT_nili (h : HS) (u : SV) : FzT h u SV.nili = fz1 h u SV.nili := rfl
theorem subX_nili (x : SV) : subX x SV.nili = (x = SV.nili) := rfl
theorem Fl_agg  (l : List SV) : Fl (SV.agg l) = Fl1 (SV.agg l) := rfl
theorem OwnL_agg (h : HS) (ty : TypeId) (x : SV) (us vs : List SV) (l : List SV) : OwnL h ty (x :: us) ((SV.agg l) :: vs) = (x = (SV.agg l) ∧ Fl1 (SV.agg l) ∧ OwnL h ty us vs) := rfl
theorem takeL_agg (M : Nat) (ty : TypeId) (vs : List SV) (l : List SV) : takeL M ty ((SV.agg l) :: vs) = ((SV.agg l) :: (takeL M ty vs).1, (takeL M ty vs).2) := rfl
theorem OwnT_agg (h : HS) (ty : TypeId) (l : List SV) (n1 sz1 : Nat) (f1 : Nat → Nat → SV) : OwnT h ty (SV.agg l) (.row n1 sz1 f1) = IsVec h ty n1 sz1 f1 (SV.agg l) := rfl
theorem IsVec_agg (h : HS) (ty : TypeId) (l : List SV) (n1 sz1 : Nat) (f1 : Nat → Nat → SV) : IsVec h ty n1 sz1 f1 (SV.agg l) = False := rfl
theorem fz0_agg (h : HS) (u : SV) (l : List SV) : fz0 h u (SV.agg l) = (u = (SV.agg l) ∧ Sc (SV.agg l)) := rfl
theorem FzT_agg (h : HS) (u : SV) (l : List SV) : FzT h u (SV.agg l) = fz1 h u (SV.agg l) := rfl
theorem subX_agg (x : SV) (l : List SV) : subX x (SV.agg l) = (x = (SV.agg l)) := rfl
theorem frzF_tup (d : Nat) (h : HS) (l : List SV) : frzF (d + 1) h (SV.tup l) = (SV.tup l) := rfl
theorem OwnL_tup (h : HS) (ty : TypeId) (x : SV) (us vs : List SV) (l : List SV) : OwnL h ty (x :: us) ((SV.tup l) :: vs) = (x = (SV.tup l) ∧ Fl1 (SV.tup l) ∧ OwnL h ty us vs) := rfl
theorem takeL_tup (M : Nat) (ty : TypeId) (vs : List SV) (l : List SV) : takeL M ty ((SV.tup l) :: vs) = ((SV.tup l) :: (takeL M ty vs).1, (takeL M ty vs).2) := rfl
theorem IsVec_tup (h : HS) (ty : TypeId) (l : List SV) (n1 sz1 : Nat) (f1 : Nat → Nat → SV) : IsVec h ty n1 sz1 f1 (SV.tup l) = False := rfl
theorem fz0_tup (h : HS) (u : SV) (l : List SV) : fz0 h u (SV.tup l) = (u = (SV.tup l) ∧ Sc (SV.tup l)) := rfl
theorem fz1_tup (h : HS) (u : SV) (l : List SV) : fz1 h u (SV.tup l) = fz0 h u (SV.tup l) := rfl
theorem subX_tup (x : SV) (l : List SV) : subX x (SV.tup l) = (x = (SV.tup l)) := rfl
theorem cellsOf_yield  (nm : Nat) : cellsOf (SV.yield nm) = some [(SV.yield nm)] := rfl
theorem frzF_yield (d : Nat) (h : HS) (nm : Nat) : frzF (d + 1) h (SV.yield nm) = (SV.yield nm) := rfl
theorem Fl1_yield  (nm : Nat) : Fl1 (SV.yield nm) = Sc (SV.yield nm) := rfl
theorem Fl_yield  (nm : Nat) : Fl (SV.yield nm) = Fl1 (SV.yield nm) := rfl
theorem OwnL_yield (h : HS) (ty : TypeId) (x : SV) (us vs : List SV) (nm : Nat) : OwnL h ty (x :: us) ((SV.yield nm) :: vs) = (x = (SV.yield nm) ∧ Fl1 (SV.yield nm) ∧ OwnL h ty us vs) := rfl
theorem takeL_yield (M : Nat) (ty : TypeId) (vs : List SV) (nm : Nat) : takeL M ty ((SV.yield nm) :: vs) = ((SV.yield nm) :: (takeL M ty vs).1, (takeL M ty vs).2) := rfl
theorem OwnT_yield (h : HS) (ty : TypeId) (nm : Nat) (n1 sz1 : Nat) (f1 : Nat → Nat → SV) : OwnT h ty (SV.yield nm) (.row n1 sz1 f1) = IsVec h ty n1 sz1 f1 (SV.yield nm) := rfl
theorem IsVec_yield (h : HS) (ty : TypeId) (nm : Nat) (n1 sz1 : Nat) (f1 : Nat → Nat → SV) : IsVec h ty n1 sz1 f1 (SV.yield nm) = False := rfl
theorem fz0_yield (h : HS) (u : SV) (nm : Nat) : fz0 h u (SV.yield nm) = (u = (SV.yield nm) ∧ Sc (SV.yield nm)) := rfl
theorem fz1_yield (h : HS) (u : SV) (nm : Nat) : fz1 h u (SV.yield nm) = fz0 h u (SV.yield nm) := rfl
theorem FzT_yield (h : HS) (u : SV) (nm : Nat) : FzT h u (SV.yield nm) = fz1 h u (SV.yield nm) := rfl
theorem subX_yield (x : SV) (nm : Nat) : subX x (SV.yield nm) = (x = (SV.yield nm)) := rfl
theorem cellsOf_meth  (g : Nat) (first : List SV) : cellsOf (SV.meth g first) = some [(SV.meth g first)] := rfl
theorem frzF_meth (d : Nat) (h : HS) (g : Nat) (first : List SV) : frzF (d + 1) h (SV.meth g first) = (SV.meth g first) := rfl
theorem Fl1_meth  (g : Nat) (first : List SV) : Fl1 (SV.meth g first) = Sc (SV.meth g first) := rfl
theorem Fl_meth  (g : Nat) (first : List SV) : Fl (SV.meth g first) = Fl1 (SV.meth g first) := rfl
theorem OwnL_meth (h : HS) (ty : TypeId) (x : SV) (us vs : List SV) (g : Nat) (first : List SV) : OwnL h ty (x :: us) ((SV.meth g first) :: vs) = (x = (SV.meth g first) ∧ Fl1 (SV.meth g first) ∧ OwnL h ty us vs) := rfl
theorem takeL_meth (M : Nat) (ty : TypeId) (vs : List SV) (g : Nat) (first : List SV) : takeL M ty ((SV.meth g first) :: vs) = ((SV.meth g first) :: (takeL M ty vs).1, (takeL M ty vs).2) := rfl
theorem OwnT_meth (h : HS) (ty : TypeId) (g : Nat) (first : List SV) (n1 sz1 : Nat) (f1 : Nat → Nat → SV) : OwnT h ty (SV.meth g first) (.row n1 sz1 f1) = IsVec h ty n1 sz1 f1 (SV.meth g first) := rfl
theorem IsVec_meth (h : HS) (ty : TypeId) (g : Nat) (first : List SV) (n1 sz1 : Nat) (f1 : Nat → Nat → SV) : IsVec h ty n1 sz1 f1 (SV.meth g first) = False := rfl
theorem fz0_meth (h : HS) (u : SV) (g : Nat) (first : List SV) : fz0 h u (SV.meth g first) = (u = (SV.meth g first) ∧ Sc (SV.meth g first)) := rfl
theorem fz1_meth (h : HS) (u : SV) (g : Nat) (first : List SV) : fz1 h u (SV.meth g first) = fz0 h u (SV.meth g first) := rfl
theorem FzT_meth (h : HS) (u : SV) (g : Nat) (first : List SV) : FzT h u (SV.meth g first) = fz1 h u (SV.meth g first) := rfl
theorem subX_meth (x : SV) (g : Nat) (first : List SV) : subX x (SV.meth g first) = (x = (SV.meth g first)) := rfl
theorem cellsOf_vcut  (id : Nat) (ver : Nat) (sz : Nat) (lo : Nat) (n : Nat) (x1 : Bool) : cellsOf (SV.vcut id ver sz lo n x1) = some [(SV.vcut id ver sz lo n x1)] := rfl
theorem Fl1_vcut  (id : Nat) (ver : Nat) (sz : Nat) (lo : Nat) (n : Nat) (x1 : Bool) : Fl1 (SV.vcut id ver sz lo n x1) = Sc (SV.vcut id ver sz lo n x1) := rfl
theorem Fl_vcut  (id : Nat) (ver : Nat) (sz : Nat) (lo : Nat) (n : Nat) (x1 : Bool) : Fl (SV.vcut id ver sz lo n x1) = Fl1 (SV.vcut id ver sz lo n x1) := rfl
theorem OwnL_vcut (h : HS) (ty : TypeId) (x : SV) (us vs : List SV) (id : Nat) (ver : Nat) (sz : Nat) (lo : Nat) (n : Nat) (x1 : Bool) : OwnL h ty (x :: us) ((SV.vcut id ver sz lo n x1) :: vs) = (x = (SV.vcut id ver sz lo n x1) ∧ Fl1 (SV.vcut id ver sz lo n x1) ∧ OwnL h ty us vs) := rfl
theorem takeL_vcut (M : Nat) (ty : TypeId) (vs : List SV) (id : Nat) (ver : Nat) (sz : Nat) (lo : Nat) (n : Nat) (x1 : Bool) : takeL M ty ((SV.vcut id ver sz lo n x1) :: vs) = ((SV.vcut id ver sz lo n x1) :: (takeL M ty vs).1, (takeL M ty vs).2) := rfl
theorem OwnT_vcut (h : HS) (ty : TypeId) (id : Nat) (ver : Nat) (sz : Nat) (lo : Nat) (n : Nat) (x1 : Bool) (n1 sz1 : Nat) (f1 : Nat → Nat → SV) : OwnT h ty (SV.vcut id ver sz lo n x1) (.row n1 sz1 f1) = IsVec h ty n1 sz1 f1 (SV.vcut id ver sz lo n x1) := rfl
theorem IsVec_vcut (h : HS) (ty : TypeId) (id : Nat) (ver : Nat) (sz : Nat) (lo : Nat) (n : Nat) (x1 : Bool) (n1 sz1 : Nat) (f1 : Nat → Nat → SV) : IsVec h ty n1 sz1 f1 (SV.vcut id ver sz lo n x1) = False := rfl
theorem fz0_vcut (h : HS) (u : SV) (id : Nat) (ver : Nat) (sz : Nat) (lo : Nat) (n : Nat) (x1 : Bool) : fz0 h u (SV.vcut id ver sz lo n x1) = (u = (SV.vcut id ver sz lo n x1) ∧ Sc (SV.vcut id ver sz lo n x1)) := rfl
theorem fz1_vcut (h : HS) (u : SV) (id : Nat) (ver : Nat) (sz : Nat) (lo : Nat) (n : Nat) (x1 : Bool) : fz1 h u (SV.vcut id ver sz lo n x1) = fz0 h u (SV.vcut id ver sz lo n x1) := rfl
theorem FzT_vcut (h : HS) (u : SV) (id : Nat) (ver : Nat) (sz : Nat) (lo : Nat) (n : Nat) (x1 : Bool) : FzT h u (SV.vcut id ver sz lo n x1) = fz1 h u (SV.vcut id ver sz lo n x1) := rfl
theorem subX_vcut (x : SV) (id : Nat) (ver : Nat) (sz : Nat) (lo : Nat) (n : Nat) (x1 : Bool) : subX x (SV.vcut id ver sz lo n x1) = (x = (SV.vcut id ver sz lo n x1)) := rfl
theorem cellsOf_bsl  (nm : Nat) (off : Nat) (n : Nat) : cellsOf (SV.bsl nm off n) = some [(SV.bsl nm off n)] := rfl
theorem frzF_bsl (d : Nat) (h : HS) (nm : Nat) (off : Nat) (n : Nat) : frzF (d + 1) h (SV.bsl nm off n) = (SV.bsl nm off n) := rfl
theorem Fl1_bsl  (nm : Nat) (off : Nat) (n : Nat) : Fl1 (SV.bsl nm off n) = Sc (SV.bsl nm off n) := rfl
theorem Fl_bsl  (nm : Nat) (off : Nat) (n : Nat) : Fl (SV.bsl nm off n) = Fl1 (SV.bsl nm off n) := rfl
theorem OwnL_bsl (h : HS) (ty : TypeId) (x : SV) (us vs : List SV) (nm : Nat) (off : Nat) (n : Nat) : OwnL h ty (x :: us) ((SV.bsl nm off n) :: vs) = (x = (SV.bsl nm off n) ∧ Fl1 (SV.bsl nm off n) ∧ OwnL h ty us vs) := rfl
theorem takeL_bsl (M : Nat) (ty : TypeId) (vs : List SV) (nm : Nat) (off : Nat) (n : Nat) : takeL M ty ((SV.bsl nm off n) :: vs) = ((SV.bsl nm off n) :: (takeL M ty vs).1, (takeL M ty vs).2) := rfl
theorem OwnT_bsl (h : HS) (ty : TypeId) (nm : Nat) (off : Nat) (n : Nat) (n1 sz1 : Nat) (f1 : Nat → Nat → SV) : OwnT h ty (SV.bsl nm off n) (.row n1 sz1 f1) = IsVec h ty n1 sz1 f1 (SV.bsl nm off n) := rfl
theorem IsVec_bsl (h : HS) (ty : TypeId) (nm : Nat) (off : Nat) (n : Nat) (n1 sz1 : Nat) (f1 : Nat → Nat → SV) : IsVec h ty n1 sz1 f1 (SV.bsl nm off n) = False := rfl
theorem fz0_bsl (h : HS) (u : SV) (nm : Nat) (off : Nat) (n : Nat) : fz0 h u (SV.bsl nm off n) = (u = (SV.bsl nm off n) ∧ Sc (SV.bsl nm off n)) := rfl
theorem fz1_bsl (h : HS) (u : SV) (nm : Nat) (off : Nat) (n : Nat) : fz1 h u (SV.bsl nm off n) = fz0 h u (SV.bsl nm off n) := rfl
theorem FzT_bsl (h : HS) (u : SV) (nm : Nat) (off : Nat) (n : Nat) : FzT h u (SV.bsl nm off n) = fz1 h u (SV.bsl nm off n) := rfl
theorem subX_bsl (x : SV) (nm : Nat) (off : Nat) (n : Nat) : subX x (SV.bsl nm off n) = (x = (SV.bsl nm off n)) := rfl
theorem cellsOf_mapp  (nm : Nat) : cellsOf (SV.mapp nm) = some [(SV.mapp nm)] := rfl
theorem frzF_mapp (d : Nat) (h : HS) (nm : Nat) : frzF (d + 1) h (SV.mapp nm) = (SV.mapp nm) := rfl
theorem Fl1_mapp  (nm : Nat) : Fl1 (SV.mapp nm) = Sc (SV.mapp nm) := rfl
theorem Fl_mapp  (nm : Nat) : Fl (SV.mapp nm) = Fl1 (SV.mapp nm) := rfl
theorem OwnL_mapp (h : HS) (ty : TypeId) (x : SV) (us vs : List SV) (nm : Nat) : OwnL h ty (x :: us) ((SV.mapp nm) :: vs) = (x = (SV.mapp nm) ∧ Fl1 (SV.mapp nm) ∧ OwnL h ty us vs) := rfl
theorem takeL_mapp (M : Nat) (ty : TypeId) (vs : List SV) (nm : Nat) : takeL M ty ((SV.mapp nm) :: vs) = ((SV.mapp nm) :: (takeL M ty vs).1, (takeL M ty vs).2) := rfl
theorem OwnT_mapp (h : HS) (ty : TypeId) (nm : Nat) (n1 sz1 : Nat) (f1 : Nat → Nat → SV) : OwnT h ty (SV.mapp nm) (.row n1 sz1 f1) = IsVec h ty n1 sz1 f1 (SV.mapp nm) := rfl
theorem IsVec_mapp (h : HS) (ty : TypeId) (nm : Nat) (n1 sz1 : Nat) (f1 : Nat → Nat → SV) : IsVec h ty n1 sz1 f1 (SV.mapp nm) = False := rfl
theorem fz0_mapp (h : HS) (u : SV) (nm : Nat) : fz0 h u (SV.mapp nm) = (u = (SV.mapp nm) ∧ Sc (SV.mapp nm)) := rfl
theorem fz1_mapp (h : HS) (u : SV) (nm : Nat) : fz1 h u (SV.mapp nm) = fz0 h u (SV.mapp nm) := rfl
theorem FzT_mapp (h : HS) (u : SV) (nm : Nat) : FzT h u (SV.mapp nm) = fz1 h u (SV.mapp nm) := rfl
theorem subX_mapp (x : SV) (nm : Nat) : subX x (SV.mapp nm) = (x = (SV.mapp nm)) := rfl
theorem subBk_mp (x : Blk) (m : MapS) : subBk x (.mp m) = (x = .mp m) := rfl
theorem subBk_loop (x : Blk) (st : LoopState) (pend : Option Code) (fid : Nat) (t : List SV) (params : Array Nat) (assign body : Code) : subBk x (.loop st pend fid t params assign body) = (x = .loop st pend fid t params assign body) := rfl
theorem wantS_tf (C : Ctx) (R R0 : Rn) (o : Oper) (fid : Nat) (ops : Array Oper) (i : Nat) (idx : List Nat) (k : List It) (t : List SV) (fs : List Fr) (h : HS) (Q : Out → HS → Prop) : wantS C R R0 true false o fid ops i idx k t fs h Q = R fid (.reg ops idx :: k) (put t o.dst (.tup [])) fs h Q := rfl
theorem gateW_tf (C : Ctx) (R0 : Rn) (X : List SV → SV → HS → Prop) (q : Bool) (o : Oper) (S : List SV → HS → Prop) (t : List SV) (h : HS) : gateW C R0 X true false q o S t h = S (put t o.dst (.tup [])) h := rfl
theorem reW_tf (r : Option (Prop × SV)) (dst : Option Nat) (t : List SV) : reW true false r dst t = True := rfl
theorem wantS_ft (C : Ctx) (R R0 : Rn) (o : Oper) (fid : Nat) (ops : Array Oper) (i : Nat) (idx : List Nat) (k : List It) (t : List SV) (fs : List Fr) (h : HS) (Q : Out → HS → Prop) : wantS C R R0 false true o fid ops i idx k t fs h Q = R fid (.reg ops idx :: k) (put t o.dst (.tup [])) fs h Q := rfl
theorem gateW_ft (C : Ctx) (R0 : Rn) (X : List SV → SV → HS → Prop) (q : Bool) (o : Oper) (S : List SV → HS → Prop) (t : List SV) (h : HS) : gateW C R0 X false true q o S t h = S (put t o.dst (.tup [])) h := rfl
theorem reW_ft (r : Option (Prop × SV)) (dst : Option Nat) (t : List SV) : reW false true r dst t = True := rfl
theorem oneR_0 : oneR [] = .tup [] := rfl
theorem oneR_2 (x y : SV) (l : List SV) : oneR (x :: y :: l) = .tup (x :: y :: l) := rfl
theorem zipPut_0 (t : List SV) (l : List SV) : zipPut t [] l = t := by cases t <;> cases l <;> rfl
theorem zipPut_1 (t : List SV) (p : Nat) (ps : List Nat) : zipPut t (p :: ps) [] = t := by cases t <;> rfl
theorem rBS_s (e : TypeId) (te : TI) (n : Nat) (ps : List (Nat × SV)) (h : HS) : rBuildSlice e te (n + 1) ps h = fin3 (fillS (placeA te.size) ps (repZ (zcs te.zero) (n + 1))) e (n + 1) te.size h := rfl
theorem rLoad_ptr (ti : TI) (h : HS) (nm off : Nat) : rLoad ti h (.ptr nm off) = bLoad ti h off (getB h.blks nm) := by rw [rLoad.eq_1]; cases getB h.blks nm <;> rfl
theorem rLoad_vptr (ti : TI) (h : HS) (id ver sz i off : Nat) : rLoad ti h (.vptr id ver sz i off) = vLoad ti h ver sz i off (getV h.vecs id) := by rw [rLoad.eq_3]; cases getV h.vecs id <;> rfl
theorem frzF_vec (d : Nat) (h : HS) (id ver : Nat) : frzF (d + 1) h (.vec id ver) = frzV (frzF d h) ver (getV h.vecs id) := rfl
theorem frzF_ptr (d : Nat) (h : HS) (nm off : Nat) : frzF (d + 1) h (.ptr nm off) = frzB (frzF d h) off (getB h.blks nm) := rfl
theorem frzF_vcut (d : Nat) (h : HS) (id ver sz lo n : Nat) (x : Bool) : frzF (d + 1) h (.vcut id ver sz lo n x) = frzC (frzF d h) ver sz lo n (getV h.vecs id) := rfl
theorem frzF_agg (d : Nat) (h : HS) (l : List SV) : frzF (d + 1) h (.agg l) = .agg (mapF (frzF d h) l) := rfl
theorem Fl1_agg (l : List SV) : Fl1 (.agg l) = ScL l := rfl
theorem Fl_tup (l : List SV) : Fl (.tup l) = FlL l := rfl
theorem fz0_row (h : HS) (u : SV) (n sz : Nat) (f : Nat → Nat → SV) : fz0 h u (.row n sz f) = RowIs h n sz f u := rfl
theorem fz1_agg (h : HS) (u : SV) (l : List SV) : fz1 h u (.agg l) = fzA h l u := rfl
theorem FzT_tup (h : HS) (u : SV) (l : List SV) : FzT h u (.tup l) = fzU h l u := rfl
theorem OwnT_tup (h : HS) (ty : TypeId) (us vs : List SV) : OwnT h ty (.tup us) (.tup vs) = OwnL h ty us vs := rfl
theorem OwnL_row (h : HS) (ty : TypeId) (u : SV) (us vs : List SV) (n sz : Nat) (f : Nat → Nat → SV) : OwnL h ty (u :: us) (.row n sz f :: vs) = (IsVec h ty n sz f u ∧ us = vs ∧ FlL vs) := rfl
theorem IsVec_vec (h : HS) (ty : TypeId) (n sz : Nat) (f : Nat → Nat → SV) (id ver : Nat) : IsVec h ty n sz f (.vec id ver) = VcIs ver ty n sz f (getV h.vecs id) := rfl
theorem takeL_row (M : Nat) (ty : TypeId) (vs : List SV) (n sz : Nat) (f : Nat → Nat → SV) : takeL M ty (.row n sz f :: vs) = (.vec M 0 :: vs, .live 0 ty sz n f) := rfl
theorem takeT_row (M : Nat) (ty : TypeId) (n sz : Nat) (f : Nat → Nat → SV) : takeT M ty (.row n sz f) = (.vec M 0, .live 0 ty sz n f) := rfl
theorem takeT_tup (M : Nat) (ty : TypeId) (l : List SV) : takeT M ty (.tup l) = (.tup (takeL M ty l).1, (takeL M ty l).2) := rfl
theorem mapS_1 (f : BaseF) (x : Option (Nat × BaseF)) : mapS (some f) x = some (lendS f) := rfl
theorem mapS_2 (ty : Nat) (f : BaseF) : mapS none (some (ty, f)) = some (lendO ty f) := rfl
theorem mapS_3 : mapS none none = none := rfl
theorem rStN_f (T : Nat → Option TI) (h : HS) (ti : TI) (x y : SV) : rStoreN T h ti x false y = rStoreO h ti x y (hasSl ti.zero) := rfl
def oStN (o : Option TI) (e : Nat) (h : HS) (ti : TI) (x : SV) : Res := match o with
  | some te => skipAnd (0 < te.size) (rStore ti { h with vecs := snocV h.vecs (.live 0 e te.size 0 (fun _ _ => .any)) } x (.vec (lenV h.vecs) 0))
  | none => .bad
theorem rStN_t (T : Nat → Option TI) (h : HS) (e : Nat) (agg ifc : Bool) (size bytes : Nat) (zero : List ZC) (eq : Option (List LK)) (fag : List Bool) (mt : List (String × Nat)) (x y : SV) : rStoreN T h ⟨.slice e, agg, ifc, size, bytes, zero, eq, fag, mt⟩ x true y = oStN (T e) e h ⟨.slice e, agg, ifc, size, bytes, zero, eq, fag, mt⟩ x := rfl
theorem rNil_e (h : HS) (e : Nat) (agg ifc : Bool) (size bytes : Nat) (zero : List ZC) (eq : Option (List LK)) (fag : List Bool) (mt : List (String × Nat)) (n z : Nat) (f : Nat → Nat → SV) : rEqNil (some ⟨.slice e, agg, ifc, size, bytes, zero, eq, fag, mt⟩) .eql (.row n z f) h = .fork (n = 0) (.bool true) (.bool false) h := rfl
theorem rNil_n (h : HS) (e : Nat) (agg ifc : Bool) (size bytes : Nat) (zero : List ZC) (eq : Option (List LK)) (fag : List Bool) (mt : List (String × Nat)) (n z : Nat) (f : Nat → Nat → SV) : rEqNil (some ⟨.slice e, agg, ifc, size, bytes, zero, eq, fag, mt⟩) .neq (.row n z f) h = .fork (n = 0) (.bool false) (.bool true) h := rfl
theorem rEqF_f (op : BinOp) (q : Bool) (h : HS) (agg ifc : Bool) (size bytes : Nat) (zero : List ZC) (eq : Option (List LK)) (fag : List Bool) (mt : List (String × Nat)) : rEqF (some ⟨.func, agg, ifc, size, bytes, zero, eq, fag, mt⟩) op q h = neO op q h := rfl
theorem rBin2_func (ti : Option TI) (c : Bool) (op : BinOp) (g : Nat) (caps : List SV) (h : HS) : rBin2 ti c op (.func g caps) .nilf h = rEqF ti op false h := rfl
theorem rBin2_meth (ti : Option TI) (c : Bool) (op : BinOp) (g : Nat) (caps : List SV) (h : HS) : rBin2 ti c op (.meth g caps) .nilf h = rEqF ti op false h := rfl
theorem rBin2_nilf (ti : Option TI) (op : BinOp) (h : HS) : rBin2 ti true op .nilf .nilf h = rEqF ti op true h := rfl
theorem opRes_inv (T : Nat → Option TI) (F : Nat → Bool) (t : List SV) (h : HS) (dst : Option Nat) (ty : TypeId) (pos : String) (aft : Array Edge) (g : Option (Nat × Bool)) (x : Operand) (m : String) (args : Array Operand) (tys : Array TypeId) : opRes T F t h ⟨dst, .call ⟨.invoke x m, args, tys⟩, ty, pos, aft, g⟩ = rInv T F (ev t x) m (evL t args.toList) := rfl
theorem rInv_iface (T : Nat → Option TI) (F : Nat → Bool) (ty : Nat) (v : SV) (m : String) (args : List SV) : rInv T F (.iface ty v) m args = rInvT F v m args (T ty) := rfl
theorem rInvT_s (F : Nat → Bool) (v : SV) (m : String) (args : List SV) (ti : TI) : rInvT F v m args (some ti) = rInvG F v args (mtF ti.mt m) := rfl
theorem rInvG_s (F : Nat → Bool) (v : SV) (args : List SV) (g : Nat) : rInvG F v args (some g) = if F g then .call g (v :: args) else .bad := rfl
theorem rCallN_0 (F : Nat → Bool) (h : HS) (f : SV) (args : List SV) : rCallN F h none f args = rCall F h f args := rfl
theorem rCallN_1 (F : Nat → Bool) (h : HS) (e : TypeId) (sz g : Nat) (args : List SV) : rCallN F h (some (e, sz)) (.func g []) args = if F g then .callN (0 < sz) g (putLast args (.vec (lenV h.vecs) 0)) { h with vecs := snocV h.vecs (.live 0 e sz 0 (fun _ _ => .any)) } else .bad := rfl
theorem lastN_nil (T : Nat → Option TI) (tys : List TypeId) : lastN T [] tys = none := by cases tys <;> rfl
theorem lastN_1 (T : Nat → Option TI) (x : Operand) (ty : TypeId) : lastN T [x] [ty] = nilE T x ty := rfl
theorem lastN_2 (T : Nat → Option TI) (x y : Operand) (l : List Operand) (ty : TypeId) (k : List TypeId) : lastN T (x :: y :: l) (ty :: k) = lastN T (y :: l) k := rfl
def nilE2 (T : Nat → Option TI) : Option TI → Option (TypeId × Nat)
  | some { kind := .slice e, .. } => match T e with
    | some { kind := .slice _, size := sz, .. } => some (e, sz)
    | _ => none
  | _ => none
def nilE1 (T : Nat → Option TI) (b : Bool) (ty : TypeId) : Option (TypeId × Nat) := match b with
  | false => none
  | true => nilE2 T (T ty)
def nilE3 (e : TypeId) : Option TI → Option (TypeId × Nat)
  | some { kind := .slice _, size := sz, .. } => some (e, sz)
  | _ => none
theorem nilE_1 (T : Nat → Option TI) (x : Operand) (ty : TypeId) : nilE T x ty = nilE1 T (isNilSl x) ty := rfl
theorem nilE1_f (T : Nat → Option TI) (ty : TypeId) : nilE1 T false ty = none := rfl
theorem nilE1_t (T : Nat → Option TI) (ty : TypeId) : nilE1 T true ty = nilE2 T (T ty) := rfl
theorem nilE2_s (T : Nat → Option TI) (e : TypeId) (agg ifc : Bool) (size bytes : Nat) (zero : List ZC) (eq : Option (List LK)) (fag : List Bool) (mt : List (String × Nat)) : nilE2 T (some ⟨.slice e, agg, ifc, size, bytes, zero, eq, fag, mt⟩) = nilE3 e (T e) := rfl
theorem nilE3_oth (e : TypeId) (agg ifc : Bool) (size bytes : Nat) (zero : List ZC) (eq : Option (List LK)) (fag : List Bool) (mt : List (String × Nat)) : nilE3 e (some ⟨.other, agg, ifc, size, bytes, zero, eq, fag, mt⟩) = none := rfl
theorem nilE3_int (e : TypeId) (k : IntKind) (agg ifc : Bool) (size bytes : Nat) (zero : List ZC) (eq : Option (List LK)) (fag : List Bool) (mt : List (String × Nat)) : nilE3 e (some ⟨.int k, agg, ifc, size, bytes, zero, eq, fag, mt⟩) = none := rfl
theorem nilE3_boo (e : TypeId) (agg ifc : Bool) (size bytes : Nat) (zero : List ZC) (eq : Option (List LK)) (fag : List Bool) (mt : List (String × Nat)) : nilE3 e (some ⟨.bool, agg, ifc, size, bytes, zero, eq, fag, mt⟩) = none := rfl
theorem nilE3_fun (e : TypeId) (agg ifc : Bool) (size bytes : Nat) (zero : List ZC) (eq : Option (List LK)) (fag : List Bool) (mt : List (String × Nat)) : nilE3 e (some ⟨.func, agg, ifc, size, bytes, zero, eq, fag, mt⟩) = none := rfl
theorem nilE3_str (e : TypeId) (o : List (Nat × Nat)) (agg ifc : Bool) (size bytes : Nat) (zero : List ZC) (eq : Option (List LK)) (fag : List Bool) (mt : List (String × Nat)) : nilE3 e (some ⟨.struct o, agg, ifc, size, bytes, zero, eq, fag, mt⟩) = none := rfl
theorem nilE3_arr (e : TypeId) (m e2 : Nat) (agg ifc : Bool) (size bytes : Nat) (zero : List ZC) (eq : Option (List LK)) (fag : List Bool) (mt : List (String × Nat)) : nilE3 e (some ⟨.array m e2, agg, ifc, size, bytes, zero, eq, fag, mt⟩) = none := rfl
theorem nilE3_map (e : TypeId) (m e2 : Nat) (agg ifc : Bool) (size bytes : Nat) (zero : List ZC) (eq : Option (List LK)) (fag : List Bool) (mt : List (String × Nat)) : nilE3 e (some ⟨.map m e2, agg, ifc, size, bytes, zero, eq, fag, mt⟩) = none := rfl
theorem isNil_tmp (i : Nat) : isNilSl (.tmp i) = false := rfl
theorem isNil_func (i : Nat) : isNilSl (.func i) = false := rfl
theorem isNil_nil : isNilSl (.const (.slice none 0 0)) = true := rfl
theorem isNil_int (k : IntKind) (n : Int) : isNilSl (.const (.int k n)) = false := rfl
theorem isNil_bool (b : Bool) : isNilSl (.const (.bool b)) = false := rfl
theorem isNil_string (b : ByteArray) : isNilSl (.const (.string b)) = false := rfl
theorem isNil_nilf  : isNilSl (.const (.nilFunc)) = false := rfl
theorem isNil_nili  : isNilSl (.const (.nilIface)) = false := rfl
theorem isNil_nilp  : isNilSl (.const (.pointer none)) = false := rfl
theorem isNil_agg (cs : Array Value) : isNilSl (.const (.agg cs)) = false := rfl
theorem intR_lit (n sz : Nat) (z : Nat → Nat → Int) : IntR n sz (fun i j => .int .i64 (z i j)) = True := eq_true fun _ _ _ _ => rfl
theorem intK_lit (k : IntKind) (n sz : Nat) (z : Nat → Nat → Int) : IntK k n sz (fun i j => .int k (z i j)) = True := eq_true fun _ _ _ _ => rfl
theorem rBuiltin_min (T : Nat → Option TI) (h : HS) (tys : List TypeId) (x y : SV) : rBuiltin T h .min tys [x, y] = rMin x y h := rfl
theorem rMin_i (k k2 : IntKind) (x y : Int) (h : HS) : rMin (.int k x) (.int k2 y) h = if k = k2 then .val True (.int k (min x y)) h else .bad := rfl
theorem rBuiltin_rec (T : Nat → Option TI) (h : HS) : rBuiltin T h .recover [] [] = .bad := rfl
theorem rowSz_vec (id ver : Nat) : rowSz (.vec id ver) = 0 := rfl
theorem iv_int (k : IntKind) (n : Int) : iv (.int k n) = n := rfl
def oRange (x : SV) (h : HS) : Option TI → Res
  | some ti => rRange ti x h
  | none => .bad
theorem opRes_range (T : Nat → Option TI) (F : Nat → Bool) (t : List SV) (h : HS) (dst : Option Nat) (ty : TypeId) (pos : String) (aft : Array Edge) (g : Option (Nat × Bool)) (ty2 : TypeId) (x : Operand) : opRes T F t h ⟨dst, .range ty2 x, ty, pos, aft, g⟩ = oRange (ev t x) h (T ty2) := rfl
theorem opRes_next (T : Nat → Option TI) (F : Nat → Bool) (t : List SV) (h : HS) (dst : Option Nat) (ty : TypeId) (pos : String) (aft : Array Edge) (g : Option (Nat × Bool)) (x : Operand) : opRes T F t h ⟨dst, .next x false, ty, pos, aft, g⟩ = rNext (ev t x) h := rfl
theorem opRes_entry (T : Nat → Option TI) (F : Nat → Bool) (t : List SV) (h : HS) (dst : Option Nat) (ty : TypeId) (pos : String) (aft : Array Edge) (g : Option (Nat × Bool)) (x : Operand) : opRes T F t h ⟨dst, .entry x, ty, pos, aft, g⟩ = rEntry (ev t x) h := rfl
theorem rRange_l (k v : Nat) (agg ifc : Bool) (size bytes : Nat) (zero : List ZC) (eq : Option (List LK)) (fag : List Bool) (mt : List (String × Nat)) (h : HS) (nm : Nat) : rRange ⟨.map k v, agg, ifc, size, bytes, zero, eq, fag, mt⟩ (.mapp nm) h = rRangeM nm h (getB h.blks nm) := rfl
theorem rRangeM_l (nm : Nat) (h : HS) (a b : TypeId) (c : Bool) (d : List LK) (e : Bool) (f : List LK) (es : List (List Int × List Int)) : rRangeM nm h (.mp ⟨a, b, c, d, e, f, es, none⟩) = .val True (.ptr (lenB h.blks) 0) { h with blks := snocB h.blks (.mp (itS (nm, lenM es, []))) } := rfl
theorem rNext_l (nm : Nat) (h : HS) : rNext (.ptr nm 0) h = rNextI nm h (getB h.blks nm) := rfl
theorem rNextI_l (nm : Nat) (h : HS) (m s : Nat) (l : List Nat) : rNextI nm h (.mp (itS (m, s, l))) = rNextM nm m s l h (getB h.blks m) := rfl
theorem rNextM_l (nm m s : Nat) (l : List Nat) (h : HS) (a b : TypeId) (c : Bool) (d : List LK) (e : Bool) (f : List LK) (es : List (List Int × List Int)) : rNextM nm m s l h (.mp ⟨a, b, c, d, e, f, es, none⟩) = .pick (s = lenM es) s (fun i => !l.contains i) (fun i => .tup (.bool true :: entS ⟨a, b, c, d, e, f, es, none⟩ i)) (fun i => { h with blks := setB h.blks nm (.mp (itS (m, s, i :: l))) }) (.tup [.bool false]) h := rfl
theorem rEntry_l (nm : Nat) (h : HS) : rEntry (.ptr nm 0) h = rEntI h (getB h.blks nm) := rfl
theorem rEntI_l (h : HS) (m s i : Nat) (l : List Nat) : rEntI h (.mp (itS (m, s, i :: l))) = rEntM i s h (getB h.blks m) := rfl
theorem rEntM_l (i s : Nat) (h : HS) (a b : TypeId) (c : Bool) (d : List LK) (e : Bool) (f : List LK) (es : List (List Int × List Int)) : rEntM i s h (.mp ⟨a, b, c, d, e, f, es, none⟩) = .val (s = lenM es ∧ i < s) (.tup (entS ⟨a, b, c, d, e, f, es, none⟩ i)) h := rfl
theorem rNil_ve (h : HS) (e : Nat) (agg ifc : Bool) (size bytes : Nat) (zero : List ZC) (eq : Option (List LK)) (fag : List Bool) (mt : List (String × Nat)) (a b : Nat) : rEqNil (some ⟨.slice e, agg, ifc, size, bytes, zero, eq, fag, mt⟩) .eql (.vec a b) h = vNil (.bool true) (.bool false) b (nOf (getV h.vecs a)) h (getV h.vecs a) := rfl
theorem rNil_vn (h : HS) (e : Nat) (agg ifc : Bool) (size bytes : Nat) (zero : List ZC) (eq : Option (List LK)) (fag : List Bool) (mt : List (String × Nat)) (a b : Nat) : rEqNil (some ⟨.slice e, agg, ifc, size, bytes, zero, eq, fag, mt⟩) .neq (.vec a b) h = vNil (.bool false) (.bool true) b (nOf (getV h.vecs a)) h (getV h.vecs a) := rfl
theorem rNil_ce (h : HS) (e : Nat) (agg ifc : Bool) (size bytes : Nat) (zero : List ZC) (eq : Option (List LK)) (fag : List Bool) (mt : List (String × Nat)) (a b c d n : Nat) (x : Bool) : rEqNil (some ⟨.slice e, agg, ifc, size, bytes, zero, eq, fag, mt⟩) .eql (.vcut a b c d n x) h = vNil (.bool true) (.bool false) b n h (getV h.vecs a) := rfl
theorem rNil_cn (h : HS) (e : Nat) (agg ifc : Bool) (size bytes : Nat) (zero : List ZC) (eq : Option (List LK)) (fag : List Bool) (mt : List (String × Nat)) (a b c d n : Nat) (x : Bool) : rEqNil (some ⟨.slice e, agg, ifc, size, bytes, zero, eq, fag, mt⟩) .neq (.vcut a b c d n x) h = vNil (.bool false) (.bool true) b n h (getV h.vecs a) := rfl
def nilT2 (e : TypeId) : Option TI → Option (TypeId × Nat)
  | some te => if te.agg = true ∧ 2 ≤ te.size then some (e, te.size) else none
  | none => none
theorem nilT_s (T : Nat → Option TI) (e : Nat) (agg ifc : Bool) (size bytes : Nat) (zero : List ZC) (eq : Option (List LK)) (fag : List Bool) (mt : List (String × Nat)) : nilT T (some ⟨.slice e, agg, ifc, size, bytes, zero, eq, fag, mt⟩) = nilT2 e (T e) := rfl
theorem apCX_0 (e : TypeId) (te : TI) (id ver sz n : Nat) (h : HS) (v : Vc) (s : Option (Prop × Nat × Nat × (Nat → Nat → SV))) (x : Bool) : apCX e te id ver sz n h v s 0 x = apC e te id ver sz 0 n h v s := rfl
theorem apCX_f (e : TypeId) (te : TI) (id ver sz n : Nat) (h : HS) (v : Vc) (s : Option (Prop × Nat × Nat × (Nat → Nat → SV))) (lo : Nat) : apCX e te id ver sz n h v s lo false = apC e te id ver sz lo n h v s := by cases lo <;> rfl
attribute [go_sem] run.eq_1 run.eq_2 run.eq_3 run.eq_4 run.eq_5 run.eq_6 run.eq_7 run.eq_8 run.eq_9 run.eq_10 run.eq_11 run.eq_12 run.eq_13 run.eq_14 run.eq_15 run.eq_16 run.eq_17 run.eq_18 run.eq_19 run.eq_20 run.eq_21 leaveS.eq_2 leaveS.eq_3 condS.eq_1 exitS.eq_1 exitS.eq_2 retS.eq_1 retS.eq_2 popS.eq_1 popS.eq_3 endRS.eq_1 beginRS.eq_2 endRngS.eq_1 endRngS.eq_2 endRngS.eq_3 rngS.eq_1 rngGo.eq_2 roundS.eq_1 roundS.eq_2 specS.eq_1 specS.eq_2 inlS.eq_2 goS.eq_1 goS.eq_2 goS.eq_3 execS.eq_1 execS.eq_2 execS.eq_3 execS.eq_4 execS.eq_5 execS.eq_6 wantS.eq_1 wantS.eq_2 guardS.eq_1 guard1.eq_1 opS.eq_1 opS.eq_2 opS.eq_3 getO.eq_1 getO.eq_2 getO.eq_3 upto.eq_1 upto.eq_2 put.eq_1 put.eq_2 exitI.eq_1 exitI.eq_2 exitI.eq_3 exitI.eq_4 exitI.eq_5 exitI.eq_6 exitI.eq_7 exitI.eq_8 exitI.eq_9 rnd.eq_1 rnd.eq_2 rnd.eq_3 rnd.eq_4 rnd.eq_5 rnd.eq_6 rnd.eq_7 rnd.eq_8 rnd.eq_9 resL.eq_1 oneR.eq_1 outK.eq_1 outK.eq_2 panQ.eq_1 panQ.eq_2 stopQ.eq_1 stopQ.eq_2 resQ.eq_1 rBin2.eq_1 rBin2.eq_2 rBin2.eq_4 rBin2.eq_6 rBin2.eq_8 rBin.eq_1 rBin.eq_2 rBin.eq_3 rBin.eq_4 rBin.eq_5 rBin.eq_6 rBin.eq_7 rBin.eq_8 rBin.eq_9 rBin.eq_10 rBin.eq_11 rBin.eq_12 rEqA.eq_1 rEqA.eq_2 rEqB.eq_2 rEqI.eq_1 rEqI.eq_2 neO.eq_1 neO.eq_2 eqS.eq_1 eqS.eq_2 isConst.eq_1 ev.eq_1 ev.eq_2 ev.eq_3 ev.eq_4 svC.eq_1 svS.eq_1 svS.eq_2 svS.eq_3 svS.eq_4 svS.eq_5 svS.eq_6 svS.eq_7 svL.eq_1 svL.eq_2 nth.eq_1 nth.eq_2 nth.eq_3 upd.eq_1 upd.eq_2 upd.eq_3 takeN.eq_1 takeN.eq_2 takeN.eq_3 dropN.eq_1 dropN.eq_2 dropN.eq_3 over.eq_1 over.eq_2 ofCells.eq_1 rLoad.eq_2 nthO.eq_1 nthO.eq_2 nthO.eq_3 rUn.eq_1 rUn.eq_2 rMax.eq_1 rMin.eq_1 zeroS.eq_1 zeroS.eq_2 zeroS.eq_3 rAlloc.eq_1 zc1.eq_1 zc1.eq_2 zcs.eq_1 zcs.eq_2 fillS.eq_1 placeS.eq_1 placeA.eq_1 evP.eq_1 evP.eq_2 fin2.eq_1 fin2.eq_2 repZ.eq_1 repZ.eq_2 cellAt.eq_1 oneF.eq_1 fin3.eq_1 fin3.eq_2 rBuildSlice.eq_1 rIface.eq_1 rExtract.eq_1 zeroV.eq_1 rAssert.eq_1 evL.eq_1 evL.eq_2 catS.eq_1 catS.eq_2 pk.eq_1 pk.eq_2 rPick.eq_1 rNil.eq_1 rNil.eq_2 rNil.eq_3 rNil.eq_4 zipPut.eq_1 rCall.eq_1 rFunc.eq_1 rBuiltin.eq_2 rBuiltin.eq_3 rPanic.eq_1 evO.eq_1 evO.eq_2 rowSz.eq_1 cellsOf.eq_1 cellsOf.eq_2 cellsOf.eq_3 lenS.eq_1 lenS.eq_2 cellsF.eq_1 cellsF.eq_2 getB.eq_1 getB.eq_2 getB.eq_3 setB.eq_1 setB.eq_2 setB.eq_3 snocB.eq_1 snocB.eq_2 lenB.eq_1 lenB.eq_2 getV.eq_1 getV.eq_2 getV.eq_3 setV.eq_1 setV.eq_2 setV.eq_3 snocV.eq_1 snocV.eq_2 lenV.eq_1 lenV.eq_2 lookG.eq_1 lookG.eq_2 lookP.eq_1 lookP.eq_2 memN.eq_1 memN.eq_2 lendS.eq_1 frzA.eq_1 frzA.eq_2 frzV.eq_1 lookS.eq_1 lookS.eq_2 numb.eq_1 numb.eq_2 qGo.eq_1 qGo.eq_2 nestS.eq_2 lCall.eq_1 lCall.eq_2 lCall.eq_3 lGo.eq_1 lGo.eq_2 lGo.eq_3 goP.eq_1 goP.eq_2 gateW.eq_1 gateW.eq_2 gateG.eq_1 gate.eq_1 gate.eq_3 thenS.eq_1 planS.eq_1 planS.eq_2 planS.eq_3 planS.eq_4 drawS.eq_1 drawS.eq_2 reS1.eq_1 reS1.eq_2 reS1.eq_3 reW.eq_1 reW.eq_2 reG.eq_1 reO.eq_1 reO.eq_3 reA.eq_1 reA.eq_2 keepN.eq_1 keepN.eq_2 subX.eq_1 subX.eq_2 subBk.eq_1 subBk.eq_2 subB.eq_1 subB.eq_2 subB.eq_3 subVk.eq_1 subVk.eq_2 subVk.eq_3 subV.eq_1 subV.eq_2 subV.eq_3 subAs.eq_1 subAs.eq_2 bdAs.eq_1 bdAs.eq_2 bdB.eq_1 bdB.eq_2 bdB.eq_3 bdB.eq_4 bdV.eq_1 bdV.eq_2 bdV.eq_3 Bd.eq_1 Bd.eq_2 Bd.eq_3 Bd.eq_4 Bd.eq_5 Bd.eq_6 Bd.eq_7 Bd.eq_8 Bd.eq_9 Bd.eq_10 Bd.eq_11 Bd.eq_12 Bd.eq_13 Bd.eq_14 Bd.eq_15 Bd.eq_16 Bd.eq_17 BdL.eq_1 BdL.eq_2 slots.eq_1 slots.eq_2 slots.eq_3 resK.eq_1 resK.eq_4 dfrQ.eq_1 dfrOp.eq_1 dfrGo.eq_1 endQ.eq_1 resultQ.eq_2 rcvQ.eq_1 rcvOp.eq_1 rcvEnd.eq_1 gotS.eq_1 gotS.eq_2 noInv.eq_1 noInv.eq_2 noInv.eq_3 noInv.eq_4 noInv.eq_5 noInv.eq_6 noInv.eq_7 noInv.eq_8 noInv.eq_9 updF.eq_1 Sc.eq_1 Sc.eq_2 Sc.eq_3 Sc.eq_4 Sc.eq_5 Sc.eq_6 Sc.eq_7 ScL.eq_1 ScL.eq_2 run.eq_22 run.eq_23 run.eq_24 rnd.eq_10 rnd.eq_11 exitI.eq_10 exitI.eq_11 noInv.eq_10 noInv.eq_11 bdB2.eq_1 bdB2.eq_2 bdB2.eq_3 bdB2.eq_4 bdB2.eq_5 itB.eq_1 itB.eq_2 lenI.eq_1 execS.eq_9 lGo.eq_5 cx_rs cxn_rs rRange_l rRangeM_l rNext_l rNextI_l rNextM_l rEntry_l rEntI_l rEntM_l opRes_range opRes_next opRes_entry oRange.eq_1 apCX.eq_1 apCX_0 apCX_f apX.eq_1 argsN.eq_1 argsN.eq_2 evA.eq_1 evA.eq_2 evA.eq_3 ev1.eq_1 ev1.eq_2 nilA.eq_1 nilA.eq_2 nilT_s nthM.eq_2 nthM.eq_3 entS.eq_1 rNil_ve rNil_vn rNil_ce rNil_cn vNil.eq_1 nOf.eq_1 guardS.eq_2 gateG.eq_2 reG.eq_2 subL.eq_1 subL.eq_2 leaveS.eq_1 popS.eq_2 popR.eq_1 beginRS.eq_1 rngGo.eq_1 inlS.eq_1 resL.eq_2 resL.eq_3 resQ.eq_2 rEqB.eq_1 eqS.eq_3 rStore.eq_1 rField.eq_1 rBox.eq_1 fillS.eq_2 rAppend.eq_1 rCall.eq_2 rCall.eq_3 rFunc.eq_2 Bd.eq_18 Bd.eq_19 Bd.eq_20 Bd.eq_21 Bd_nthT ivf_lit bvf_lit boolR_lit rBuiltin.eq_1 nestS.eq_1 gate.eq_2 reO.eq_2 resK.eq_2 resK.eq_3 resultQ.eq_1 nth_setL upd_setL cx_P cx_T cx_F cx_FN cx_inl cx_G cx_plan cx_D cx_off if_true if_false eq_self decide_true decide_false Bool.true_and Bool.and_true Bool.false_and Bool.and_false Bool.or_false Bool.false_or Bool.or_true Bool.true_or Bool.not_true Bool.not_false true_and and_true and_self Int.toNat_natCast Nat.zero_add Option.isNone_none Option.isSome_some List.toList_toArray List.length_cons List.length_nil List.append_nil List.cons_append List.nil_append opRes_move opRes_assign opRes_pick opRes_alloc opRes_box opRes_build opRes_buildSlice opRes_load opRes_store opRes_nilCheck opRes_binOp opRes_unOp opRes_convert opRes_makeInterface opRes_makeFunc opRes_slice opRes_makeSlice opRes_fieldAddr opRes_indexAddr opRes_typeAssert opRes_extract opRes_call opRes_callB opRes_panic opRes_defer opRes_makeMap opRes_lookup opRes_mapUpdate opRes_insert opRes_field opRes_index oSliceA.eq_1 oIdxA.eq_1 oCopy2.eq_1 slA.eq_1 oAlloc.eq_1 oBuildA.eq_1 oBuildSl.eq_1 oBuildSl2.eq_1 oLoad.eq_1 oStore.eq_1 oConv.eq_1 oIface.eq_1 oSlice2.eq_1 oMake2.eq_1 oField.eq_1 oIndex2.eq_1 oAssert.eq_1 mMk_m mLk_m mUp_m rLookup_m rUpdate_m keyKs_i keyKs_a rFld_s fldO_s rLen_m mLen.eq_1 mMk2.eq_1 mLk2.eq_1 mUp2.eq_1 mFd.eq_1 rLookB.eq_1 rUpdB.eq_1 rMakeMap.eq_1 mkMp.eq_1 gLook.eq_1 gLook.eq_2 gt.eq_2 gt.eq_3 gt.eq_1 svN.eq_1 svN.eq_2 svsN.eq_1 svsN.eq_2 valS.eq_1 b2i.eq_1 numK.eq_1 numK.eq_2 numK.eq_3 numV.eq_1 numV.eq_2 isI.eq_1 isI.eq_2 valKs.eq_1 valKs.eq_2 valKs.eq_3 gtB.eq_1 gtB.eq_2 gtB.eq_3 oBuild_a oBuild_s rBuild_a rBuild_s oSlice_s oSlice_a oIdx_a rSlA_p rIdx_a rBuiltin_copy oCopy_s cxn_P cxn_T cxn_F cxn_FN cxn_inl cxn_G cxn_plan cxn_D cxn_off mapN.eq_1 mapN.eq_2 bareS.eq_1 bareR.eq_1 retN frzT_tup frzT_agg frzT_vec frzT_row frzT_int frzT_bool rCopy.eq_1 rCopy.eq_2 cpyB.eq_1 cpyV.eq_1 rBuiltin.eq_5 cpB.eq_1 cpB.eq_2 rNil_be rNil_bn rBoxO_s rBoxO_n ownN_c dnl1_c renS.eq_19 renS.eq_20 renS.eq_21 renS.eq_22 Bd.eq_22 rBoxB.eq_1 rBoxB.eq_2 ownM.eq_1 ownM.eq_2 ownN.eq_1 dnlM.eq_1 dnlM.eq_2 hasSl.eq_1 hasSl.eq_2 hasSl.eq_3 rStoreO.eq_1 rStoreO.eq_2 apN.eq_1 srcOf.eq_5 rAppend.eq_3 isN_any ownC_any ownS_any dnl_any isN_int ownC_int ownS_int dnl_int isN_bool ownC_bool ownS_bool dnl_bool isN_str ownC_str ownS_str dnl_str isN_ptr ownC_ptr ownS_ptr dnl_ptr isN_nilp ownC_nilp ownS_nilp dnl_nilp isN_nils ownS_nils dnl_nils isN_rptr ownC_rptr ownS_rptr dnl_rptr isN_row ownC_row ownS_row dnl_row isN_vec ownC_vec ownS_vec dnl_vec isN_vptr ownC_vptr ownS_vptr dnl_vptr isN_func ownC_func ownS_func dnl_func isN_nilf ownC_nilf ownS_nilf dnl_nilf isN_iface ownC_iface ownS_iface dnl_iface isN_nili ownC_nili ownS_nili dnl_nili isN_agg ownS_agg isN_tup ownC_tup ownS_tup dnl_tup isN_yield ownC_yield ownS_yield dnl_yield isN_meth ownC_meth ownS_meth dnl_meth isN_vcut ownC_vcut dnl_vcut isN_bsl ownC_bsl ownS_bsl dnl_bsl isN_mapp ownC_mapp ownS_mapp dnl_mapp ownS_vcut rebV.eq_1 ownC_agg ownC_nils dnl_agg frzF_nils rLen_nils rNil_ne rNil_nn oMake_s rMake.eq_1 rSl.eq_1 rSl.eq_2 rSl.eq_3 rSlR.eq_1 rSlG.eq_1 hiOk.eq_1 hiOk.eq_2 rSliceV.eq_1 rSliceV.eq_2 sliV.eq_1 sliC.eq_1 cutR.eq_1 intO.eq_1 intO.eq_2 maxO.eq_1 maxO.eq_2 srcOf.eq_1 srcOf.eq_2 srcOf.eq_3 srcOf.eq_4 srcV.eq_1 srcC.eq_1 srcB.eq_1 apV.eq_1 apC.eq_1 rAppend.eq_2 rClear.eq_1 rClear.eq_2 clrV.eq_1 clrW.eq_1 sliC_t sliC_f cIndex.eq_1 rIndex_c rIndex_b rLen_c rLen_b oIndex_s oIndex_a rIndex_r vIndex.eq_1 renS.eq_1 renS.eq_2 renS.eq_3 renS.eq_4 renS.eq_5 renS.eq_6 renS.eq_7 renS.eq_8 renS.eq_9 renS.eq_10 renS.eq_11 renS.eq_12 renS.eq_13 renS.eq_14 renS.eq_15 renS.eq_16 renS.eq_17 renS.eq_18 renL.eq_1 renL.eq_2 renK.eq_1 renK.eq_2 renK.eq_3 renK.eq_4 renC.eq_1 renC.eq_2 renO.eq_1 renO.eq_2 nmN.eq_2 nmN.eq_3 matB.eq_1 matV.eq_1 matB.eq_2 matV.eq_2 bdO.eq_1 bdO.eq_2 putB_c putV_c putB_n putV_n rIndex_v rIndex_a rLen_r vLen.eq_1 rLen_v rConvT_i rConvT_s cvU_8 oIdx_str rIdxS_e rBin2_str true_or rConvB.eq_1 rBin.eq_13 rBin.eq_14 rBin.eq_15 rBin.eq_16 rBin.eq_17 rConv_i rSlice_a rSlice_b rSlice_c bMv2.eq_1 bMv.eq_1 rMove_nil rMove_tmp rMove_func rMove_int svC_int rMove_bool svC_bool rMove_string svC_string rMove_nilf svC_nilf rMove_nili svC_nili rMove_nilp svC_nilp svC_nils rMove_agg isConst_tmp isConst_func frzF_any Fl1_any Fl_any OwnL_any takeL_any OwnT_any IsVec_any fz0_any fz1_any FzT_any cellsOf_int frzF_int Fl1_int Fl_int OwnL_int takeL_int OwnT_int IsVec_int fz0_int fz1_int FzT_int subX_int cellsOf_bool frzF_bool Fl1_bool Fl_bool OwnL_bool takeL_bool OwnT_bool IsVec_bool fz0_bool fz1_bool FzT_bool subX_bool cellsOf_str frzF_str Fl1_str Fl_str OwnL_str takeL_str OwnT_str IsVec_str fz0_str fz1_str FzT_str subX_str cellsOf_ptr Fl1_ptr Fl_ptr OwnL_ptr takeL_ptr OwnT_ptr IsVec_ptr fz0_ptr fz1_ptr FzT_ptr subX_ptr cellsOf_nilp frzF_nilp Fl1_nilp Fl_nilp OwnL_nilp takeL_nilp OwnT_nilp IsVec_nilp fz0_nilp fz1_nilp FzT_nilp subX_nilp cellsOf_nils Fl1_nils Fl_nils OwnL_nils takeL_nils OwnT_nils IsVec_nils fz0_nils fz1_nils FzT_nils subX_nils cellsOf_rptr frzF_rptr Fl1_rptr Fl_rptr OwnL_rptr takeL_rptr OwnT_rptr IsVec_rptr fz0_rptr fz1_rptr FzT_rptr subX_rptr cellsOf_row frzF_row Fl1_row Fl_row fz1_row FzT_row cellsOf_vec Fl1_vec Fl_vec OwnL_vec takeL_vec OwnT_vec fz0_vec fz1_vec FzT_vec subX_vec cellsOf_vptr frzF_vptr Fl1_vptr Fl_vptr OwnL_vptr takeL_vptr OwnT_vptr IsVec_vptr fz0_vptr fz1_vptr FzT_vptr subX_vptr cellsOf_func frzF_func Fl1_func Fl_func OwnL_func takeL_func OwnT_func IsVec_func fz0_func fz1_func FzT_func subX_func cellsOf_nilf frzF_nilf Fl1_nilf Fl_nilf OwnL_nilf takeL_nilf OwnT_nilf IsVec_nilf fz0_nilf fz1_nilf FzT_nilf subX_nilf cellsOf_iface frzF_iface Fl1_iface Fl_iface OwnL_iface takeL_iface OwnT_iface IsVec_iface fz0_iface fz1_iface FzT_iface subX_iface cellsOf_nili frzF_nili Fl1_nili Fl_nili OwnL_nili takeL_nili OwnT_nili IsVec_nili fz0_nili fz1_nili FzT_nili subX_nili Fl_agg OwnL_agg takeL_agg OwnT_agg IsVec_agg fz0_agg FzT_agg subX_agg frzF_tup OwnL_tup takeL_tup IsVec_tup fz0_tup fz1_tup subX_tup cellsOf_yield frzF_yield Fl1_yield Fl_yield OwnL_yield takeL_yield OwnT_yield IsVec_yield fz0_yield fz1_yield FzT_yield subX_yield cellsOf_meth frzF_meth Fl1_meth Fl_meth OwnL_meth takeL_meth OwnT_meth IsVec_meth fz0_meth fz1_meth FzT_meth subX_meth cellsOf_vcut Fl1_vcut Fl_vcut OwnL_vcut takeL_vcut OwnT_vcut IsVec_vcut fz0_vcut fz1_vcut FzT_vcut subX_vcut cellsOf_bsl frzF_bsl Fl1_bsl Fl_bsl OwnL_bsl takeL_bsl OwnT_bsl IsVec_bsl fz0_bsl fz1_bsl FzT_bsl subX_bsl cellsOf_mapp frzF_mapp Fl1_mapp Fl_mapp OwnL_mapp takeL_mapp OwnT_mapp IsVec_mapp fz0_mapp fz1_mapp FzT_mapp subX_mapp subBk_mp bdB.eq_5 dfrQ.eq_2 subBk_loop wantS_tf gateW_tf reW_tf wantS_ft gateW_ft reW_ft oneR_0 oneR_2 zipPut_0 zipPut_1 rBS_s rLoad_ptr rLoad_vptr bLoad.eq_1 vLoad.eq_1 frzF_vec frzF_ptr frzF_vcut frzC.eq_1 frzF_agg Fl1_agg Fl_tup fz0_row fz1_agg FzT_tup OwnT_tup OwnL_row IsVec_vec takeL_row takeT_row takeT_tup VcIs.eq_1 mapF.eq_1 mapF.eq_2 frzB.eq_1 lendR.eq_1 lendO.eq_1 lendRO.eq_1 quietR.eq_1 aGo.eq_1 lookO.eq_1 lookO.eq_2 FlL.eq_1 FlL.eq_2 retQ retO retF retP VcR.eq_1 CutR.eq_1 RowIs.eq_1 RowIs.eq_2 fzL.eq_1 fzL.eq_2 fzA.eq_1 fz1L.eq_1 fz1L.eq_2 fzU.eq_1 frzF_ite skipAnd.eq_1 mapS_1 mapS_2 mapS_3 rStN_f oStN.eq_1 rStN_t rNil_e rNil_n rEqF_f rBin2_func rBin2_meth rBin2_nilf rBin3.eq_1 rBin3.eq_2 execS.eq_7 execS.eq_8 putLast.eq_1 putLast.eq_2 putLast.eq_3 opRes_inv rInv_iface rInvT_s rInvG_s mtF_hit rCallN_0 rCallN_1 lastN_nil lastN_1 lastN_2 nilE_1 nilE1_f nilE1_t nilE2_s nilE3.eq_1 nilE3_oth nilE3_int nilE3_boo nilE3_fun nilE3_str nilE3_arr nilE3_map isNil_tmp isNil_func isNil_nil isNil_int isNil_bool isNil_string isNil_nilf isNil_nili isNil_nilp isNil_agg intR_lit intK_lit rBuiltin_min rMin_i rBuiltin_rec rowSz_vec iv_int nilT2.eq_1
attribute [go_sem ↓] cat_setL spl_true spl_false
end Go.Eng
end

/- A call that is handed nothing of the caller's own: what it leaves behind is the caller's own, by names behind the others. -/
section
namespace Go.Eng
open Go.RowKit
set_option linter.unusedVariables false
def tagU (L M : Nat) (old new : Option Tag) : Option Tag :=
  match old with
  | some t => some t
  | none => match new with
    | some (.blk i) => some (.blk (i + L))
    | some (.vec i) => some (.vec (i + M))
    | some .other => some .other
    | none => none
/-- The caller's ghost and the callee's, one behind the other. -/
def Env.grow (E E0 : Env) : Env :=
  { nb := E0.nb + E.nb, rho := fun i => if i < E.nb then E.rho i else E0.rho (i - E.nb), nv := E0.nv + E.nv, val := fun i ver => if i < E.nv then E.val i ver else E0.val (i - E.nv) ver, own := fun k => tagU E.nb E.nv (E.own k) (E0.own k) }
end Go.Eng
end

/- From what the statement says of its arguments to symbolic values. -/
section
namespace Go.Eng
open Go Go.RowKit Go.ChangeShapes Go.WideShapes

/-- What a cell is: a number, a bool, or a slice of such cells. -/
inductive Sh where
  | int (k : IntKind)
  | bool
  | sl (e : List Sh)
def shF (P : Program) (rec : Nat → Option (List Sh)) : List Field → Nat → Option (List Sh)
  | [], _ => some []
  | f :: fs, off => if f.offset = off then match rec f.type with
    | some a => if a.length = P.cellsOf f.type then match shF P rec fs (off + a.length) with
      | some b => some (a ++ b)
      | none => none
      else none
    | none => none
    else none
def repS (s : List Sh) : Nat → List Sh
  | 0 => []
  | n + 1 => s ++ repS s n
def shT (P : Program) : Nat → Nat → Option (List Sh)
  | 0, _ => none
  | d + 1, t => match P.underlying t with
    | some (.int k) => some [.int k]
    | some .bool => some [.bool]
    | some (.slice e) => match shT P d e with
      | some s => if s.length = P.cellsOf e ∧ 0 < s.length then some [.sl s] else none
      | none => none
    | some (.struct fs) => match shF P (shT P d) fs.toList 0 with
      | some s => if s.length = P.cellsOf t then some s else none
      | none => none
    | some (.array n e) => match shT P d e with
      | some s => if s.length = P.cellsOf e ∧ (repS s n).length = P.cellsOf t then some (repS s n) else none
      | none => none
    | _ => none
inductive Typ : Sh → SV → Prop
  | int {k : IntKind} {n : Int} (h : (Lit.int k n).wf = true) : Typ (.int k) (.int k n)
  | bool (b : Bool) : Typ .bool (.bool b)
  | sl {e : List Sh} {n : Nat} {f : Nat → Nat → SV} (hn : n ≤ maxLen) (h : ∀ i j sh, i < n → e[j]? = some sh → Typ sh (f i j)) : Typ (.sl e) (.row n e.length f)
def Env.emp : Env := { nb := 0, rho := id, nv := 0, val := fun _ _ => none, own := fun _ => none }
theorem emp_rel (w : World) : RelH Env.emp ⟨[], []⟩ w :=
  ⟨rfl, rfl, fun nm ty c h => by simp [getB] at h, fun id a b c d e h => by simp [getV] at h, fun b t hb => by simp [Env.emp] at hb, fun nm st pend fid t params assign body hb => by simp [getB] at hb, fun nm m hb => by simp [getB] at hb⟩
/-- Cells that read as shapes are denoted. -/
def CellsD (w : World) (shs : List Sh) (cs : List Value) : Prop :=
  cs.length = shs.length ∧ ∃ xs : List SV, xs.length = shs.length ∧ ∀ (j : Nat) (a : SV) (v : Value) (sh : Sh), xs[j]? = some a → cs[j]? = some v → shs[j]? = some sh → Den Env.emp w a v ∧ Typ sh a ∧ v.oneCell' = true
theorem CellsD.app {w : World} {s1 s2 : List Sh} {c1 c2 : List Value} (h1 : CellsD w s1 c1) (h2 : CellsD w s2 c2) : CellsD w (s1 ++ s2) (c1 ++ c2) := by
  obtain ⟨a1, x1, b1, d1⟩ := h1
  obtain ⟨a2, x2, b2, d2⟩ := h2
  refine ⟨by simp [a1, a2], x1 ++ x2, by simp [b1, b2], fun j a v sh ha hv hs => ?_⟩
  by_cases hj : j < s1.length
  · rw [List.getElem?_append_left (by omega)] at ha hv hs
    exact d1 j a v sh ha hv hs
  · rw [List.getElem?_append_right (by omega)] at ha hv hs
    rw [b1] at ha; rw [a1] at hv
    exact d2 _ a v sh ha hv hs
section
variable {H : Type} {enc : TypeId × Value → H} {P : Program} {w : World} {held : Bool}
theorem fields_ok {rec : Nat → Option (List Sh)} {n : Nat} {cs : List Value} (hrec : ∀ t s c x, rec t = some s → DataW.trod enc P w 0 (fun _ => true) held n t c = some x → CellsD w s c) :
    ∀ (fs : List Field) (off : Nat) (s : List Sh), shF P rec fs off = some s → (∀ (i : Nat) (f : Field), fs[i]? = some f → ∃ x, DataW.trod enc P w 0 (fun _ => true) held n f.type ((cs.drop f.offset).take (P.cellsOf f.type)) = some x) → CellsD w s ((cs.drop off).take s.length)
  | [], off, s, h, _ => by simp only [shF, Option.some.injEq] at h; subst h; exact ⟨by simp, [], rfl, fun j a v sh ha => by simp at ha⟩
  | f :: fs, off, s, h, hx => by
    simp only [shF] at h
    split at h
    · rename_i ho
      split at h
      · rename_i a ha
        split at h
        · rename_i hl
          split at h
          · rename_i b hb
            cases h
            obtain ⟨x, hx0⟩ := hx 0 f rfl
            have h1 := hrec _ _ _ _ ha hx0
            have h2 := fields_ok hrec fs _ _ hb (fun i f hf => hx (i + 1) f (by simpa using hf))
            rw [ho, ← hl] at h1
            have e : (cs.drop off).take (a ++ b).length = (cs.drop off).take a.length ++ (cs.drop (off + a.length)).take b.length := by
              rw [List.length_append, List.take_add, List.drop_drop]
            rw [e]
            exact h1.app h2
          · cases h
        · cases h
      · cases h
    · cases h
theorem arr_ok {s : List Sh} {cs : List Value} : ∀ (n off : Nat), (∀ i, i < n → CellsD w s ((cs.drop (off + i * s.length)).take s.length)) → CellsD w (repS s n) ((cs.drop off).take (repS s n).length)
  | 0, off, _ => ⟨by simp [repS], [], rfl, fun j a v sh ha => by simp at ha⟩
  | n + 1, off, h => by
    have h1 := h 0 (by omega)
    have h2 := arr_ok n (off + s.length) (fun i hi => by have := h (i + 1) (by omega); rw [Nat.succ_mul] at this; rw [show off + s.length + i * s.length = off + (i * s.length + s.length) by omega]; exact this)
    have e : (cs.drop off).take (repS s (n + 1)).length = (cs.drop off).take s.length ++ (cs.drop (off + s.length)).take (repS s n).length := by
      simp only [repS]
      rw [List.length_append, List.take_add, List.drop_drop]
    rw [e]
    simp only [repS]
    exact CellsD.app (by simpa using h1) h2

theorem trod_den : ∀ (d : Nat) (t : Nat) (cs : List Value) (fuel : Nat) (x : DataW H × List MemPlace) (shs : List Sh), shT P d t = some shs → DataW.trod enc P w 0 (fun _ => true) held fuel t cs = some x → CellsD w shs cs := by
  intro d
  induction d with
  | zero => intro t cs fuel x shs h; simp [shT] at h
  | succ d ih =>
    intro t cs fuel x shs h hx
    simp only [shT] at h
    have one : ∀ (a : SV) (v : Value) (sh : Sh), Den Env.emp w a v → Typ sh a → v.oneCell' = true → CellsD w [sh] [v] := fun a v sh h1 h2 h3 => ⟨rfl, [a], rfl, fun j b u s hb hu hs => by
      cases j with
      | zero => simp at hb hu hs; subst hb hu hs; exact ⟨h1, h2, h3⟩
      | succ j => simp at hb⟩
    split at h
    · rename_i k hk
      cases h
      obtain ⟨n, rfl, _, hw⟩ := DataW.trod_int hk hx
      exact one _ _ _ (.int k n) (.int hw) rfl
    · rename_i hk
      cases h
      obtain ⟨b, rfl, _⟩ := DataW.trod_bool hk hx
      exact one _ _ _ (.bool b) (.bool b) rfl
    · rename_i e hk
      split at h
      · rename_i s hs
        split at h
        · rename_i hl
          cases h
          rcases DataW.trod_slice hk hx with ⟨rfl, _⟩ | ⟨a, len, cap, elems, rest, n, _, rfl, _, _, hlc, hcap, hlen, hel, _, _⟩
          · exact one (.row 0 s.length fun _ _ => .any) _ _ (.rowZ _ _) (.sl (Nat.zero_le _) (fun i j sh hi => by omega)) rfl
          · by_cases h0 : len = 0
            · subst h0
              exact one (.row 0 s.length fun _ _ => .any) _ _ (.rowZ _ _) (.sl (Nat.zero_le _) (fun i j sh hi => by omega)) rfl
            · have hi : ∀ i, ∃ xs : List SV, i < len → xs.length = s.length ∧ ∀ (j : Nat) (sh : Sh), s[j]? = some sh → ∃ a' v, xs[j]? = some a' ∧ w.cell? (a.add (i * s.length + j)) = some v ∧ Den Env.emp w a' v ∧ Typ sh a' ∧ v.oneCell' = true := by
                intro i
                by_cases hil : i < len
                · have h1 := hel i hil
                  have h2 : elems[i]? = some (elems[i]'(by omega)) := List.getElem?_eq_getElem (by omega)
                  rw [h2] at h1
                  cases hc : w.cells? 0 (a.add (i * P.cellsOf e)) (P.cellsOf e) with
                  | none => rw [hc] at h1; cases h1
                  | some cs' =>
                    rw [hc] at h1
                    obtain ⟨q1, xs, q2, q3⟩ := ih e cs' n _ s hs h1
                    refine ⟨xs, fun _ => ⟨q2, fun j sh hj => ?_⟩⟩
                    have hjl : j < s.length := (List.getElem?_eq_some_iff.1 hj).1
                    obtain ⟨_, hcl, hat⟩ := World.cells?_some hc
                    have hcj := hat j (by omega)
                    have e1 : cs'[j]? = some (cs'[j]'(by omega)) := List.getElem?_eq_getElem (by omega)
                    have e2 : xs[j]? = some (xs[j]'(by omega)) := List.getElem?_eq_getElem (by omega)
                    obtain ⟨r1, r2, r3⟩ := q3 j _ _ sh e2 e1 hj
                    rw [e1] at hcj
                    have hadd : (a.add (i * P.cellsOf e)).add j = a.add (i * s.length + j) := by
                      rw [hl.1, Addr.add_add]
                    rw [hadd] at hcj
                    exact ⟨_, _, e2, hcj, r1, r2, r3⟩
                · exact ⟨[], fun h => absurd h hil⟩
              obtain ⟨F, hF⟩ := Classical.skolem.1 hi
              have hcell : ∀ i j, i < len → j < s.length → ∃ a' v, (F i)[j]? = some a' ∧ w.cell? (a.add (i * s.length + j)) = some v ∧ Den Env.emp w a' v ∧ v.oneCell' = true := fun i j hil hj => by
                obtain ⟨_, h2⟩ := hF i hil
                obtain ⟨a', v, k1, k2, k3, _, k5⟩ := h2 j _ (List.getElem?_eq_getElem hj)
                exact ⟨a', v, k1, k2, k3, k5⟩
              have hb : a.block < w.heap.size := by
                obtain ⟨_, v, _, k2, _⟩ := hcell 0 0 (by omega) hl.2
                have := block_of_cell k2
                rwa [add_block] at this
              refine one (.row len s.length fun i j => nth (F i) j) _ _ (.row a cap (fun i j => (w.cell? (a.add (i * s.length + j))).getD undef) hb rfl hlc (fun i j hi hj => ?_) (fun i j hi hj => ?_) (fun i j hi hj => ?_)) (.sl (by omega) (fun i j sh hil hj => ?_)) rfl
              · obtain ⟨_, v, _, k2, _⟩ := hcell i j hi hj
                rw [k2]; rfl
              · obtain ⟨_, v, _, k2, _, k5⟩ := hcell i j hi hj
                rw [k2]; exact k5
              · obtain ⟨a', v, k1, k2, k3, _⟩ := hcell i j hi hj
                rw [k2, nth_eq, List.getD, k1]; exact k3
              · obtain ⟨_, h2⟩ := hF i hil
                obtain ⟨a', v, k1, _, _, k4, _⟩ := h2 j sh hj
                rw [nth_eq, List.getD, k1]; exact k4
        · cases h
      · cases h
    · rename_i fs hk
      split at h
      · rename_i s hs
        split at h
        · rename_i hl
          cases h
          obtain ⟨xs, n, _, _, hlen, hxl, hg⟩ := DataW.trod_struct hk hx
          have := fields_ok (cs := cs) (n := n) (fun t s c x h1 h2 => ih t c n x s h1 h2) fs.toList 0 shs hs (fun i f hf => by
            have hf' : fs[i]? = some f := by simpa using hf
            have hil : i < xs.length := by rw [hxl]; exact (Array.getElem?_eq_some_iff.1 hf').1
            exact ⟨xs[i], by rw [hg i f hf']; exact List.getElem?_eq_getElem hil⟩)
          rw [List.drop_zero, hl, ← hlen, List.take_length] at this
          exact this
        · cases h
      · cases h
    · rename_i n e hk
      split at h
      · rename_i s hs
        split at h
        · rename_i hl
          cases h
          obtain ⟨xs, m, _, _, hlen, hxl, hg⟩ := DataW.trod_array hk hx
          have := arr_ok (w := w) (s := s) (cs := cs) n 0 (fun i hi => by
            have h1 := hg i hi
            have hil : i < xs.length := by omega
            rw [List.getElem?_eq_getElem hil] at h1
            rw [Nat.zero_add, hl.1]
            exact ih e _ m _ s hs h1)
          rw [List.drop_zero, hl.2, ← hlen, List.take_length] at this
          exact this
        · cases h
      · cases h
    · cases h

/-- A struct, an array. -/
theorem arg_agg {r : Reach} {b : Nat} {t : TypeId} {fs : Array Field} {v : Value} {d : DataW H} {ps : List MemPlace} {shs : List Sh} (ht : P.underlying t = some (.struct fs)) (hs : shT P 12 t = some shs) (hval : Value.okWide P w r b t v) (h : DataW.Trod enc P w 0 (fun _ => true) held t v d ps) :
    ∃ xs : List SV, Den Env.emp w (.agg xs) v ∧ xs.length = shs.length ∧ ∀ (j : Nat) (a : SV) (sh : Sh), xs[j]? = some a → shs[j]? = some sh → Typ sh a := by
  obtain ⟨cs, rfl, hsz⟩ := okWide_struct ht hval
  obtain ⟨fuel, hf⟩ := h
  obtain ⟨q1, xs, q2, q3⟩ := trod_den 12 t _ fuel _ shs hs hf
  have hcl : (Value.agg cs).cells.toList = cs.toList := rfl
  rw [hcl] at q1 q3
  refine ⟨xs, .agg cs (by simpa [q2] using q1) (fun i u hu => ?_) (fun i x u hx hu => ?_), q2, fun j a sh ha hsh => ?_⟩
  · have hil : i < cs.size := (Array.getElem?_eq_some_iff.1 hu).1
    have h1 : i < shs.length := by rw [← q1]; simpa using hil
    exact (q3 i _ u _ (List.getElem?_eq_getElem (by omega)) (by simpa using hu) (List.getElem?_eq_getElem h1)).2.2
  · have hil : i < xs.length := (List.getElem?_eq_some_iff.1 hx).1
    exact (q3 i x u _ hx (by simpa using hu) (List.getElem?_eq_getElem (by omega))).1
  · have hil : j < cs.toList.length := by have := (List.getElem?_eq_some_iff.1 hsh).1; omega
    exact (q3 j a _ sh ha (List.getElem?_eq_getElem hil) hsh).2.1
theorem arg_row {r : Reach} {b : Nat} {t e : TypeId} {v : Value} {d : DataW H} {ps : List MemPlace} {s : List Sh} (ht : P.underlying t = some (.slice e)) (hs : shT P 12 t = some [.sl s]) (hval : Value.okWide P w r b t v) (h : DataW.Trod enc P w 0 (fun _ => true) held t v d ps) :
    ∃ (n : Nat) (f : Nat → Nat → SV), Den Env.emp w (.row n s.length f) v ∧ n ≤ maxLen ∧ ∀ i j sh, i < n → s[j]? = some sh → Typ sh (f i j) := by
  obtain ⟨a, len, cap, rfl⟩ := okWide_slice ht hval
  obtain ⟨fuel, hf⟩ := h
  obtain ⟨q1, xs, q2, q3⟩ := trod_den 12 t _ fuel _ _ hs hf
  match xs, q2 with
  | [x], _ =>
    obtain ⟨k1, k2, _⟩ := q3 0 x (.slice a len cap) (.sl s) rfl rfl rfl
    cases k2 with
    | @sl e n f hn hh => exact ⟨n, f, k1, hn, hh⟩

theorem trodAll_below {W W' : World} (hl : laidOutB P = true) (hb : Below W.heap.size W W') : ∀ {ts : List TypeId} {vs : List Value} {ds : List (DataW H)} {ps : List MemPlace}, (∀ t ∈ ts, P.readableRec t = true ∧ t < P.types.size) →
    DataW.TrodAll enc P W 0 (fun _ => true) true ts vs ds ps → (∀ x ∈ ps, x.block < W.heap.size) → DataW.TrodAll enc P W' 0 (fun b => decide (b < W.heap.size)) true ts vs ds ps
  | [], [], [], _, _, h, _ => h
  | t :: ts, v :: vs, d :: ds, ps, hr, ⟨p, q, h1, h2, e⟩, hlt => by
    subst e
    have := hr t (by simp)
    exact ⟨p, q, Below.trod hl this.1 this.2 h1 hb (fun x hx => hlt x (List.mem_append_left _ hx)), trodAll_below hl hb (fun t ht => hr t (List.mem_cons_of_mem _ ht)) h2 (fun x hx => hlt x (List.mem_append_right _ hx)), rfl⟩
end
/-- A law's end: it returned true, and of what was there nothing turned. -/
theorem law_end {H : Type} {enc : TypeId × Value → H} {P : Program} {f : Func} {s : ChangeSpec} {W W' : World} {args : Array Value} {ds gs : List (DataW H)} {before : List MemPlace} {tb : TypeId}
    (hl : laidOutB P = true) (hres : f.resultTypes = #[tb]) (htb : P.underlying tb = some .bool) (hpar : (f.params.toList.all fun t => P.readableRec t && decide (t < P.types.size)) = true) (hvars : s.vars = [])
    (hW : DataW.Whole enc P f.params.toList s.vars false W args.toList ds gs before) (hfn : s.fn H (ds ++ gs) = { results := [.lit (.bool true)], args := ds, vars := [] }) (hb : Below W.heap.size W W') :
    s.post enc P f false true false false W args (.bool true) W' := by
  have hW0 := hW
  obtain ⟨p, q, hA, hV, rfl, hfz, hnd⟩ := hW
  rw [hvars] at hV
  have hq : gs = [] ∧ q = [] := by
    cases gs with
    | nil => exact ⟨rfl, by simpa [DataW.TrodVars] using hV⟩
    | cons _ _ => simp [DataW.TrodVars] at hV
  obtain ⟨rfl, rfl⟩ := hq
  refine ⟨ds, [], p ++ [], [], p, [], hW0, ?_, ?_, ?_, hb.frame _, fun h => by cases h⟩
  · rw [hfn, hres]
    exact ⟨[], [], shut_bool htb true, rfl, rfl⟩
  · rw [hfn]
    exact trodAll_below hl hb (fun t ht => by have := List.all_eq_true.1 hpar t ht; simpa using this) hA (fun x hx => hW0.lt x (by simpa using hx))
  · rw [hfn, hvars]; rfl
theorem below_of {w w' : World} {E' : Env} (hx : Ext Env.emp w E' w') : Below w.heap.size w w' := ⟨hx.os, hx.tape, hx.output, hx.size, fun k hk => (hx.keep k hk rfl).2⟩
/-- The law's call, by its contract. -/
theorem law_calls {P : Program} {g : Nat} {base : List SV → Option (Prop × SV)} (hb : Base P g base) {args : List SV} {p : Prop} (hq : base args = some (p, .bool true)) (hp : p) {W : World} {vals : Array Value} (hd : DenA Env.emp W args vals) :
    Calls P g vals W fun e W' => e = .returned (.bool true) ∧ Below W.heap.size W W' := by
  obtain ⟨_, h2⟩ := hb _ _ _ hq hp
  refine (h2 Env.emp W vals (emp_rel W) hd).mono ?_
  rintro e w' ⟨o, h', E', ⟨u, rfl, hres⟩, hr', hx, hout⟩
  cases e with
  | panicked _ => exact hout.elim
  | outgrown => exact hout.elim
  | returned val =>
    rcases hres with ⟨hfl, hsd⟩ | hfz
    · have := hsd.out _ _ _ hout
      cases this
      exact ⟨rfl, below_of hx⟩
    · obtain ⟨rfl, _⟩ : u = .bool true ∧ Sc (.bool true) := hfz
      cases hout
      exact ⟨rfl, below_of hx⟩
def DenL (E : Env) (w : World) : List SV → List Value → Prop
  | [], [] => True
  | x :: l, v :: vs => Den E w x v ∧ DenL E w l vs
  | _, _ => False
theorem DenL.get {E : Env} {w : World} : ∀ {l : List SV} {vs : List Value}, DenL E w l vs → vs.length = l.length ∧ ∀ (i : Nat) (x : SV) (u : Value), l[i]? = some x → vs[i]? = some u → Den E w x u
  | [], [], _ => ⟨rfl, fun i x u h => by simp at h⟩
  | x :: l, v :: vs, h => by
    obtain ⟨h1, h2⟩ := DenL.get h.2
    refine ⟨by simp [h1], fun i y u hy hu => ?_⟩
    cases i with
    | zero => simp at hy hu; subst hy hu; exact h.1
    | succ i => exact h2 i y u (by simpa using hy) (by simpa using hu)
  | [], _ :: _, h => h.elim
  | _ :: _, [], h => h.elim
theorem denA_of {E : Env} {w : World} {l : List SV} {vs : List Value} (h : DenL E w l vs) : DenA E w l vs.toArray :=
  ⟨by simpa using h.get.1, fun i x u hx hu => h.get.2 i x u hx (by simpa using hu)⟩
theorem intK_of_typ {k : IntKind} {n c : Nat} {f : Nat → Nat → SV} {e : List Sh} (he : e = List.replicate c (Sh.int k)) (h : ∀ i j sh, i < n → e[j]? = some sh → Typ sh (f i j)) : IntK k n c f ∧ ∀ i j, i < n → j < c → (Lit.int k (iv (f i j))).wf = true := by
  have : ∀ i j, i < n → j < c → ∃ x, f i j = .int k x ∧ (Lit.int k x).wf = true := fun i j hi hj => by
    have := h i j (.int k) hi (by rw [he]; simp [List.getElem?_replicate, hj])
    generalize f i j = x at this
    cases this with
    | int hw => exact ⟨_, rfl, hw⟩
  exact ⟨fun i j hi hj => by obtain ⟨x, hx, _⟩ := this i j hi hj; rw [hx]; rfl, fun i j hi hj => by obtain ⟨x, hx, hw⟩ := this i j hi hj; rw [hx]; exact hw⟩
end Go.Eng
end

/- Bits. No program in sight. -/
section
namespace Go.Eng
theorem wrap_id {x : Int} (h1 : -9223372036854775808 ≤ x) (h2 : x ≤ 9223372036854775807) : IntKind.i64.wrap x = x := by
  simp [IntKind.wrap, IntKind.signed, IntKind.bits]
  omega
theorem wrap_u64 {x : Int} (h1 : 0 ≤ x) (h2 : x < 18446744073709551616) : IntKind.u64.wrap x = x := by
  simp [IntKind.wrap, IntKind.signed, IntKind.bits]
  omega
theorem wrap_u8 {x : Int} (h1 : 0 ≤ x) (h2 : x < 256) : IntKind.u8.wrap x = x := by
  simp [IntKind.wrap, IntKind.signed, IntKind.bits]
  omega
theorem bv_nat {w a : Nat} (h : a < 2 ^ w) : (BitVec.ofInt w (a : Int)).toNat = a := by
  rw [BitVec.toNat_ofInt]
  have : ((a : Int) % ((2 ^ w : Nat) : Int)).toNat = a := by
    rw [← Int.natCast_emod, Nat.mod_eq_of_lt h]; rfl
  exact this
theorem and64 {a b : Nat} (ha : a < 2 ^ 63) (hb : b < 2 ^ 63) : bitI .and .i64 (a : Int) (b : Int) = ((a &&& b : Nat) : Int) := by
  have h1 := bv_nat (w := 64) (a := a) (by omega)
  have h2 := bv_nat (w := 64) (a := b) (by omega)
  have h3 : a &&& b < 2 ^ 63 := Nat.and_lt_two_pow _ hb
  show IntKind.i64.wrap (((BitVec.ofInt 64 (a : Int) &&& BitVec.ofInt 64 (b : Int)).toNat : Nat) : Int) = _
  rw [BitVec.toNat_and, h1, h2]
  generalize a &&& b = c at h3 ⊢
  exact wrap_id (by omega) (by omega)
theorem or64 {a b : Nat} (ha : a < 2 ^ 63) (hb : b < 2 ^ 63) : bitI .or .i64 (a : Int) (b : Int) = ((a ||| b : Nat) : Int) := by
  have h1 := bv_nat (w := 64) (a := a) (by omega)
  have h2 := bv_nat (w := 64) (a := b) (by omega)
  have h3 : a ||| b < 2 ^ 63 := Nat.or_lt_two_pow ha hb
  show IntKind.i64.wrap (((BitVec.ofInt 64 (a : Int) ||| BitVec.ofInt 64 (b : Int)).toNat : Nat) : Int) = _
  rw [BitVec.toNat_or, h1, h2]
  generalize a ||| b = c at h3 ⊢
  exact wrap_id (by omega) (by omega)
theorem and64u {a b : Nat} (ha : a < 2 ^ 64) (hb : b < 2 ^ 64) : bitI .and .u64 (a : Int) (b : Int) = ((a &&& b : Nat) : Int) := by
  have h1 := bv_nat (w := 64) (a := a) (by omega)
  have h2 := bv_nat (w := 64) (a := b) (by omega)
  have h3 : a &&& b < 2 ^ 64 := Nat.and_lt_two_pow _ hb
  show IntKind.u64.wrap (((BitVec.ofInt 64 (a : Int) &&& BitVec.ofInt 64 (b : Int)).toNat : Nat) : Int) = _
  rw [BitVec.toNat_and, h1, h2]
  generalize a &&& b = c at h3 ⊢
  exact wrap_u64 (by omega) (by omega)
theorem or64u {a b : Nat} (ha : a < 2 ^ 64) (hb : b < 2 ^ 64) : bitI .or .u64 (a : Int) (b : Int) = ((a ||| b : Nat) : Int) := by
  have h1 := bv_nat (w := 64) (a := a) (by omega)
  have h2 := bv_nat (w := 64) (a := b) (by omega)
  have h3 : a ||| b < 2 ^ 64 := Nat.or_lt_two_pow ha hb
  show IntKind.u64.wrap (((BitVec.ofInt 64 (a : Int) ||| BitVec.ofInt 64 (b : Int)).toNat : Nat) : Int) = _
  rw [BitVec.toNat_or, h1, h2]
  generalize a ||| b = c at h3 ⊢
  exact wrap_u64 (by omega) (by omega)
theorem or8 {a b : Nat} (ha : a < 2 ^ 8) (hb : b < 2 ^ 8) : bitI .or .u8 (a : Int) (b : Int) = ((a ||| b : Nat) : Int) := by
  have h1 := bv_nat (w := 8) (a := a) (by omega)
  have h2 := bv_nat (w := 8) (a := b) (by omega)
  have h3 : a ||| b < 2 ^ 8 := Nat.or_lt_two_pow ha hb
  show IntKind.u8.wrap (((BitVec.ofInt 8 (a : Int) ||| BitVec.ofInt 8 (b : Int)).toNat : Nat) : Int) = _
  rw [BitVec.toNat_or, h1, h2]
  generalize a ||| b = c at h3 ⊢
  exact wrap_u8 (by omega) (by omega)
theorem and8 {a b : Nat} (ha : a < 2 ^ 8) (hb : b < 2 ^ 8) : bitI .and .u8 (a : Int) (b : Int) = ((a &&& b : Nat) : Int) := by
  have h1 := bv_nat (w := 8) (a := a) (by omega)
  have h2 := bv_nat (w := 8) (a := b) (by omega)
  have h3 : a &&& b < 2 ^ 8 := Nat.and_lt_two_pow _ hb
  show IntKind.u8.wrap (((BitVec.ofInt 8 (a : Int) &&& BitVec.ofInt 8 (b : Int)).toNat : Nat) : Int) = _
  rw [BitVec.toNat_and, h1, h2]
  generalize a &&& b = c at h3 ⊢
  exact wrap_u8 (by omega) (by omega)
/-- What has one set of bits, and not the other. -/
theorem not64 {a b : Nat} (ha : a < 2 ^ 63) (hb : b < 2 ^ 63) : ∃ c : Nat, bitI .andNot .i64 (a : Int) (b : Int) = (c : Int) ∧ c < 2 ^ 63 ∧ ∀ i, c.testBit i = (a.testBit i && !b.testBit i) := by
  have h1 := bv_nat (w := 64) (a := a) (by omega)
  have h2 := bv_nat (w := 64) (a := b) (by omega)
  have ht : ∀ i, (BitVec.ofInt 64 (a : Int) &&& ~~~ BitVec.ofInt 64 (b : Int)).toNat.testBit i = (a.testBit i && !b.testBit i) := fun i => by
    rw [← BitVec.getLsbD, BitVec.getLsbD_and, BitVec.getLsbD_not, BitVec.getLsbD, BitVec.getLsbD, h1, h2]
    by_cases hi : i < 64
    · simp [hi]
    · have : a.testBit i = false := Nat.testBit_lt_two_pow (Nat.lt_of_lt_of_le ha (Nat.pow_le_pow_right (by omega) (by omega)))
      simp [hi, this]
  have hc : (BitVec.ofInt 64 (a : Int) &&& ~~~ BitVec.ofInt 64 (b : Int)).toNat < 2 ^ 63 := by
    refine Nat.lt_pow_two_of_testBit _ fun i hi => ?_
    rw [ht i]
    have : a.testBit i = false := Nat.testBit_lt_two_pow (Nat.lt_of_lt_of_le ha (Nat.pow_le_pow_right (by omega) hi))
    simp [this]
  refine ⟨_, ?_, hc, ht⟩
  show IntKind.i64.wrap (((BitVec.ofInt 64 (a : Int) &&& ~~~ BitVec.ofInt 64 (b : Int)).toNat : Nat) : Int) = _
  generalize (BitVec.ofInt 64 (a : Int) &&& ~~~ BitVec.ofInt 64 (b : Int)).toNat = c at hc ⊢
  exact wrap_id (by omega) (by omega)
theorem xor_ones {a : Nat} (ha : a < 2 ^ 64) : bitI .xor .u64 (a : Int) 18446744073709551615 = 18446744073709551615 - (a : Int) := by
  have h1 := bv_nat (w := 64) (a := a) (by omega)
  have h2 : BitVec.ofInt 64 18446744073709551615 = BitVec.allOnes 64 := by decide
  show IntKind.u64.wrap (((BitVec.ofInt 64 (a : Int) ^^^ BitVec.ofInt 64 18446744073709551615).toNat : Nat) : Int) = _
  rw [h2, BitVec.xor_allOnes, BitVec.toNat_not, h1]
  rw [wrap_u64 (by omega) (by omega)]
  omega
theorem xor_zero {a : Nat} (ha : a < 2 ^ 64) : bitI .xor .u64 (a : Int) 0 = (a : Int) := by
  have h1 := bv_nat (w := 64) (a := a) (by omega)
  show IntKind.u64.wrap (((BitVec.ofInt 64 (a : Int) ^^^ BitVec.ofInt 64 0).toNat : Nat) : Int) = _
  rw [show BitVec.ofInt 64 0 = 0#64 from by decide, BitVec.xor_zero, h1]
  exact wrap_u64 (by omega) (by omega)
theorem xor_neg {a : Nat} (ha : a < 2 ^ 63) : bitI .xor .i64 (a : Int) (-1) = -1 - (a : Int) := by
  have h1 := bv_nat (w := 64) (a := a) (by omega)
  have h2 : BitVec.ofInt 64 (-1) = BitVec.allOnes 64 := by decide
  show IntKind.i64.wrap (((BitVec.ofInt 64 (a : Int) ^^^ BitVec.ofInt 64 (-1)).toNat : Nat) : Int) = _
  rw [h2, BitVec.xor_allOnes, BitVec.toNat_not, h1]
  have : ((2 ^ 64 - 1 - a : Nat) : Int) = 18446744073709551615 - (a : Int) := by omega
  rw [this]
  simp only [IntKind.wrap, IntKind.signed, IntKind.bits]
  simp
  omega
theorem xor_z {a : Nat} (ha : a < 2 ^ 63) : bitI .xor .i64 (a : Int) 0 = (a : Int) := by
  have h1 := bv_nat (w := 64) (a := a) (by omega)
  show IntKind.i64.wrap (((BitVec.ofInt 64 (a : Int) ^^^ BitVec.ofInt 64 0).toNat : Nat) : Int) = _
  rw [show BitVec.ofInt 64 0 = 0#64 from by decide, BitVec.xor_zero, h1]
  exact wrap_id (by omega) (by omega)
end Go.Eng
end
