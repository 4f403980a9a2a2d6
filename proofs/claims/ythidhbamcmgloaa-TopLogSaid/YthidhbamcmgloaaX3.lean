/-
  A part of the symbolic machine, of its soundness, and of what functions compute. No condition.
-/
import Derived.Test.YthidhbamcmgloaaProg
import Derived.KernelRfl
import Derived.Attr
import Derived.Test.YthidhbamcmgloaaX2
set_option linter.unusedSimpArgs false
set_option linter.unusedVariables false
/- The symbolic machine is right: operations that call. -/
section
namespace Go.Eng
open Go.RowKit
set_option linter.unusedVariables false

section
variable {C : Ctx} {cs : List Frame} {fid0 : Nat} {B : Bt} {E0 : Env} {w0 : World} {Q : Out → HS → Prop}

theorem ext_putObj {E : Env} {w : World} {D nm : Nat} (h : E.own D = some (.blk nm)) (o : Obj) : Ext E w E (w.putObj D o) :=
  ⟨rfl, rfl, rfl, by rw [World.putObj_size]; exact Nat.le_refl _, Nat.le_refl _, Nat.le_refl _, fun _ _ => rfl, fun _ _ _ _ h => h,
   fun b hb ho => ⟨ho, World.putObj_heap_other (fun e => by subst e; rw [h] at ho; cases ho)⟩, fun b ho => ⟨ho, World.putObj_heap_other (fun e => by subst e; rw [h] at ho; cases ho)⟩⟩
theorem putObj_heap_same {w : World} {D : Nat} {o o' : Obj} (h : w.heap[D]? = some o') : (w.putObj D o).heap[D]? = some o := by
  have hlt := (Array.getElem?_eq_some_iff.1 h).1
  simp [World.putObj, hlt]

/-- A record moves on, in memory and in the symbolic heap. -/
theorem loop_moves {E : Env} {h : HS} {w : World} (hr : RelH E h w) {nm : Nat} {st pend fid t params assign body} (hb : getB h.blks nm = .loop st pend fid t params assign body) :
    ∃ r : Loop, w.heap[E.rho nm]? = some (.loop r) ∧ r.state = st ∧ r.pending = pend ∧ ∀ st' pend', RelH E { h with blks := setB h.blks nm (.loop st' pend' fid t params assign body) } (w.putObj (E.rho nm) (.loop { r with state := st', pending := pend' })) ∧
      Ext E w E (w.putObj (E.rho nm) (.loop { r with state := st', pending := pend' })) := by
  obtain ⟨tmps, db, h1, h2, h3⟩ := hr.lp _ _ _ _ _ _ _ _ hb
  refine ⟨_, h1, rfl, rfl, fun st' pend' => ?_⟩
  have hx := ext_putObj (w := w) h3 (.loop { state := st', pending := pend', fn := fid, tmps, params, assign, body, defers := db })
  exact ⟨hr.setLoop hb st' pend' h1 hx World.putObj_size (fun b hb => World.putObj_heap_other hb) (putObj_heap_same h1), hx⟩
theorem RelH.drop {E : Env} {h : HS} {w : World} (hr : RelH E h w) (nm : Nat) : RelH E { h with blks := setB h.blks nm .dead } w where
  nb := by simp only [lenB_set]; exact hr.nb
  nv := hr.nv
  blk := fun nm' ty cells hb => by
    simp only [getB_set] at hb
    split at hb
    · cases hb
    · exact hr.blk _ _ _ hb
  vec := hr.vec
  own := hr.own
  lp := fun nm' st pend fid t params assign body hb => by
    simp only [getB_set] at hb
    split at hb
    · cases hb
    · exact hr.lp _ _ _ _ _ _ _ _ hb
  mp := fun nm' m hb => by
    simp only [getB_set] at hb
    split at hb
    · cases hb
    · exact hr.mp _ _ hb
theorem setB_setB : ∀ (l : List Blk) (n : Nat) (a b : Blk), setB (setB l n a) n b = setB l n b
  | [], _, _, _ => rfl
  | _ :: _, 0, _, _ => rfl
  | x :: l, n + 1, a, b => by simp only [setB, setB_setB l n a b]

/-- A round ends, in whatever way. -/
theorem endRS_ok (hB : BtOk C cs fid0 B E0 w0 Q) (hD : C.D = none) {R : Rn} (hR : Sound C cs fid0 B E0 w0 Q R) {nm : Nat} {jump : Option Code} {fs : List Fr} {h : HS} (hp : endRS C R (getB h.blks nm) nm jump fs h Q)
    {E : Env} {w : World} {frs : List Frame} {fid s : Nat} (hr : RelH E h w) (hs : StkOk C cs B E w w0.heap.size s fs frs) (hx : Ext E0 w0 E w) (hb : bot fid fs = fid0) {m : Machine}
    (hstep : ∀ v w' c frs', (Instr.endRound (E.rho nm) jump).run C.P w = .ok v w' → frs ++ cs = c :: frs' → step C.P m = .next (lone (c.finish v) frs' w')) :
    Goal C B m := by
  unfold endRS at hp
  split at hp
  · rename_i st pend fid' t params assign body hblk
    obtain ⟨r, h1, h2, h3, h4⟩ := loop_moves hr hblk
    obtain ⟨hr', hx'⟩ := h4 (if jump.isNone then .ready else .done) jump
    have hrun := run_endRound (P := C.P) jump h1
    unfold popR at hp
    split at hp
    · rename_i fid2 ops i idx k t2 fs'
      split at hp
      · rename_i o ho
        cases frs with
        | nil => simp only [StkOk] at hs
        | cons fr' frs =>
          have hs2 := hs.ext hx'
          simp only [StkOk] at hs2
          obtain ⟨s1, ds, tmps, q1, q2, rfl, hden, hkb, hds, hfn, hik, hs'⟩ := hs2
          rw [getO_eq, Array.getElem?_toList] at ho
          refine Goal.step (hstep _ _ _ _ hrun rfl) ?_
          simp only [items]
          rw [fra_finish B ds _ fid2 tmps ops i idx _ _ ho]
          simp only [kb] at hkb
          exact hR _ _ _ _ _ hp (fun h => absurd hD h) E _ _ _ s1 ds (put_den hden _ (.bool _)) hr' hs' (Nat.le_trans q1 q2) (hds.ext (Ext.refl _ _) q2) (by simp only [kb]; exact hkb) (by simp only [InvK] at hik ⊢; exact hik.ext (Ext.refl _ _) q2) (hx.trans hx') hb hfn
      · exact hp.elim
    · split at hp
      · rename_i _ hrd
        obtain ⟨c, cs', hcs, hgo⟩ := hB.rnd hD hrd
        cases frs with
        | cons fr' frs => simp only [StkOk] at hs
        | nil => exact Goal.step (hstep _ _ _ _ hrun (by rw [hcs]; rfl)) (hgo _ _ E _ _ hp hr' (hx.trans hx') (.bool _))
      · exact hp.elim
    · exact hp.elim
  · exact hp.elim

theorem enter_fra {B : Bt} (h2 : B.kd = .normal) {P : Program} {g : Nat} {fn : Func} {c : Code} (hf : P.funcs[g]? = some fn) (hb : fn.body = some c) (vals : Array Value) :
    Frame.enter P g vals .normal = fra B [] none g (vals ++ Array.replicate (fn.ntmps - vals.size) undef) [.code c] := by
  simp [Frame.enter, fra, hf, hb, h2]
theorem fill_den {E : Env} {w : World} {args : List SV} {vals : Array Value} (h : DenA E w args vals) (n : Nat) : DenA E w (catS args (anys (n - lenS args))) (vals ++ Array.replicate (n - vals.size) undef) := by
  refine h.cat ?_
  have hs := h.1
  rw [lenS_eq, ← hs, anys_eq]
  refine ⟨by simp, fun i x u hx hu => ?_⟩
  rw [List.getElem?_replicate] at hx
  split at hx
  · cases hx; exact .any _
  · cases hx
theorem no_marks {E : Env} {w : World} {B : Bt} (h : B.ds = []) (s u : Nat) : DsOk E w B s u [] := ⟨[], by simp [marks, h], by simp, fun D hD => by cases hD⟩

/-- A callee's contract: the frame beneath goes on, or is in panic. -/
theorem by_contract (hB : BtOk C cs fid0 B E0 w0 Q) {g : Nat} {args : List SV} {h : HS} {K : Out → HS → Prop} (hcs : CallsS C.P g args h K) {E : Env} {w : World} {vals : Array Value} (hr : RelH E h w) (hv : DenA E w args vals)
    {fr : Frame} {rest : List Frame} (hret : ∀ v h' E' w' val, K (.ret v) h' → RelH E' h' w' → Ext E w E' w' → Den E' w' v val → Goal C B (lone (fr.finish val) rest w'))
    (hpan : ∀ v h' E' w' val, K (.pan v) h' → RelH E' h' w' → Ext E w E' w' → Den E' w' v val → Goal C B (lone (fr.raise [{ v := val, recovered := false }]) rest w')) :
    Goal C B (lone (Frame.enter C.P g vals .normal) (fr :: rest) w) := by
  obtain ⟨e, w', fr', ⟨o', h', E', hK, hr', hx', hout⟩, hc, hf, hl⟩ := hcs E w vals hr hv (fr :: rest)
  cases o' with
  | ret v =>
    cases e with
    | returned val => exact Goal.of_steps hc (Goal.step (step_leave_returned hl) (hret v h' E' w' val hK hr' hx' hout))
    | panicked chain => exact hout.elim
    | outgrown => exact hout.elim
  | pan v =>
    cases e with
    | returned val => exact hout.elim
    | panicked chain =>
      obtain ⟨val, rfl, hden⟩ := hout
      exact Goal.of_steps hc (Goal.step (step_leave_panicked hl) (hpan v h' E' w' val hK hr' hx' hden))
    | outgrown => exact hout.elim
  | fin p ts => cases e <;> exact hout.elim
  | stop k t => cases e <;> exact hout.elim
  | rnd v => cases e <;> exact hout.elim

theorem goS_ok (hC : CtxOk C) (hB : BtOk C cs fid0 B E0 w0 Q) {R R0 : Rn} (hN : Nests C R0) (hR : Sound C cs fid0 B E0 w0 Q R) {g : Nat} {args : List SV} {fid : Nat} {ops : Array Oper} {i : Nat} {idx : List Nat} {k : List It} {t : List SV} {fs : List Fr} {h : HS} {o : Oper}
    (ho : ops[i]? = some o) {E : Env} {w : World} {tmps : Array Value} {frs : List Frame} {s : Nat} {ds : List Deferred} {vals : Array Value}
    (hp : goS C R R0 (C.G g) (C.inl g) g args fid ops i idx o.dst k t fs h Q) (hv : DenA E w args vals) (hd : DenA E w t tmps) (hr : RelH E h w) (hs : StkOk C cs B E w w0.heap.size s fs frs) (hsw : s ≤ w.heap.size) (hds : DsOk E w B s w.heap.size ds) (hkb : kb E.nb k)
    (hi : InvK C cs B E w s w.heap.size fid frs k) (hx : Ext E0 w0 E w) (hb : bot fid fs = fid0) (hfn : ∃ fn, C.P.funcs[fid]? = some fn) (hfs : C.D ≠ none → fs = []) :
    Goal C B (lone (Frame.enter C.P g vals .normal) (fra B ds (rnf E.rho k) fid tmps (.inRegion ops (i :: idx) :: items E.rho k) :: (frs ++ cs)) w) := by
  have contract : ∀ K, CallsS C.P g args h K → (∀ v h', K (.ret v) h' → R fid (.reg ops idx :: k) (put t o.dst v) fs h' Q) → (∀ v h', K (.pan v) h' → panQ C.D Q t v h') →
      Goal C B (lone (Frame.enter C.P g vals .normal) (fra B ds (rnf E.rho k) fid tmps (.inRegion ops (i :: idx) :: items E.rho k) :: (frs ++ cs)) w) := by
    intro K hcs k1 k2
    refine by_contract hB hcs hr hv (fun v h' E' w' val hK hr' hx' hden => ?_) (fun v h' E' w' val hK hr' hx' hden => ?_)
    · rw [fra_finish B ds _ fid tmps ops i idx _ val ho]
      rw [← items_eq (fun nm hn => hx'.rho nm hn) hkb, ← rnf_eq (fun nm hn => hx'.rho nm hn) hkb]
      exact hR _ _ _ _ _ (k1 v h' hK) hfs E' w' _ _ s ds (put_den (hd.ext hx') _ hden) hr' (hs.ext hx') (Nat.le_trans hsw hx'.size) (hds.ext hx' hx'.size) (by simp only [kb]; exact kb_le hx'.nb hkb) (by simp only [InvK]; exact hi.ext hx' hx'.size) (hx.trans hx') hb hfn
    · exact panQ_goal hB (k2 v h' hK) (hd.ext hx') hr' (hx.trans hx') hden (hs.ext hx') (hds.ext hx' hx'.size) hb hfn hfs
  unfold goS at hp
  split at hp
  · rename_i f hG
    unfold specS at hp
    split at hp
    · rename_i p v h1 hf
      exact contract _ (hC.G g f hG args h p v h1 hf hp.1) (fun v' h' ⟨e1, e2⟩ => by cases e1; subst e2; exact hp.2) (fun v' h' ⟨e1, _⟩ => by cases e1)
    · exact hp.elim
  · unfold inlS at hp
    split at hp
    · rename_i fn hFN
      split at hp
      · rename_i c hbody
        have hP := hC.FN g fn hFN
        split at hp
        · rename_i hD
          rw [enter_fra (hB.std hD).2.1 hP hbody]
          have := hR _ _ _ _ _ hp (fun h => absurd hD h) E w _ (fra B ds (rnf E.rho k) fid tmps (.inRegion ops (i :: idx) :: items E.rho k) :: frs) w.heap.size [] (fill_den hv _) hr (by
            simp only [StkOk]
            exact ⟨s, ds, tmps, hsw, Nat.le_refl _, by simp only [items]; rfl, hd, by simp only [kb]; exact hkb, hds, hfn, by simp only [InvK]; exact hi, hs⟩) (Nat.le_refl _) (no_marks (hB.std hD).1 _ _) (by simp only [kb]) (by simp only [InvK]) hx hb ⟨fn, hP⟩
          exact this
        · rename_i l hD
          exact contract _ (hN g fn c args h _ hFN hbody hp) (fun v h' hk => hk) (fun v h' hk => by rw [hD] at hk ⊢; exact hk)
      · exact hp.elim
    · exact hp.elim
  · unfold callS at hp
    exact contract _ hp (fun v h' hk => hk) (fun v h' hk => hk)
end
end Go.Eng
end

/- The symbolic machine is right: one operation. -/
section
namespace Go.Eng
open Go.RowKit
set_option linter.unusedVariables false

section
variable {C : Ctx} {cs : List Frame} {fid0 : Nat} {B : Bt} {E0 : Env} {w0 : World} {Q : Out → HS → Prop}

theorem nth_bool {E : Env} {w : World} {t : List SV} {tmps : Array Value} (hd : DenA E w t tmps) {d : Nat} {q : Bool} (h : nth t d = .bool q) : tmps[d]? = some (.bool q) := by
  rw [nth_eq] at h
  by_cases hl : d < t.length
  · have hv : d < tmps.size := by rw [hd.1]; exact hl
    have h1 := hd.2 d t[d] tmps[d] (List.getElem?_eq_getElem hl) (Array.getElem?_eq_getElem hv)
    simp only [List.getD, List.getElem?_eq_getElem hl, Option.getD_some] at h
    rw [h] at h1
    rw [Array.getElem?_eq_getElem hv]
    generalize tmps[d] = x at h1
    cases h1
    rfl
  · simp [List.getD, List.getElem?_eq_none (Nat.le_of_not_lt hl)] at h

theorem nth_undef {E : Env} {w : World} {t : List SV} {tmps : Array Value} (hd : DenA E w t tmps) {d : Nat} (h : nth t d = .tup []) : tmps[d]? = some (.tuple #[]) := by
  rw [nth_eq] at h
  have hl : d < t.length := by
    rcases Nat.lt_or_ge d t.length with hl | hl
    · exact hl
    · simp [List.getD, List.getElem?_eq_none hl] at h
  have hs : d < tmps.size := by rw [hd.1]; exact hl
  have hx : t[d]? = some (.tup []) := by
    have := List.getElem?_eq_getElem hl
    rw [List.getD, this] at h
    rw [this]; simpa using h
  have := hd.2 d _ tmps[d] hx (Array.getElem?_eq_getElem hs)
  rw [Array.getElem?_eq_getElem hs]
  generalize tmps[d] = v at this
  cases this
  rename_i vs hs hd
  have : vs = #[] := by apply Array.eq_empty_of_size_eq_zero; simpa using hs
  rw [this]
theorem upd_same {E : Env} {w : World} {t : List SV} {tmps : Array Value} (hd : DenA E w t tmps) {d : Nat} {x : SV} {v : Value} (hv : tmps[d]? = some v) (hx : Den E w x v) : DenA E w (upd t d x) tmps := by
  refine ⟨by simp [upd_eq, hd.1], fun i y u hy hu => ?_⟩
  rw [upd_eq, List.getElem?_set] at hy
  split at hy
  · rename_i e
    subst e
    split at hy
    · cases hy; rw [hv] at hu; cases hu; exact hx
    · cases hy
  · exact hd.2 i y u hy hu

theorem not_defer {T : Nat → Option TI} {F : Nat → Bool} {t : List SV} {h : HS} {o : Oper} (hb : opRes T F t h o ≠ .bad) : ∀ c, o.op ≠ .defer c := by
  intro c e
  apply hb
  obtain ⟨dst, op, ty, pos, aft, gd⟩ := o
  simp only at e
  subst e
  rfl

theorem execS_ok (hC : CtxOk C) (hB : BtOk C cs fid0 B E0 w0 Q) {R R0 : Rn} (hN : Nests C R0) (hR : Sound C cs fid0 B E0 w0 Q R) {fid : Nat} {ops : Array Oper} {i : Nat} {idx : List Nat} {k : List It} {t : List SV} {fs : List Fr} {h : HS} {o : Oper}
    (ho : ops[i]? = some o) {E : Env} {w : World} {tmps : Array Value} {frs : List Frame} {s : Nat} {ds : List Deferred} (hw : Region.wanted o (yielded ops tmps) = true)
    (hp : execS C R R0 (opRes C.T C.F t h o) fid ops i idx o.dst k t fs h Q) (hd : DenA E w t tmps) (hr : RelH E h w) (hs : StkOk C cs B E w w0.heap.size s fs frs) (hsw : s ≤ w.heap.size) (hds : DsOk E w B s w.heap.size ds) (hkb : kb E.nb k)
    (hi : InvK C cs B E w s w.heap.size fid frs k) (hx : Ext E0 w0 E w) (hb : bot fid fs = fid0) (hfn : ∃ fn, C.P.funcs[fid]? = some fn) (hfs : C.D ≠ none → fs = []) :
    Goal C B (lone (fra B ds (rnf E.rho k) fid tmps (.inRegion ops (i :: idx) :: items E.rho k)) (frs ++ cs) w) := by
  have hres := opRes_ok (P := C.P) (a := ⟨tmps, ds⟩) hC.T hC.F hd hr o
  have e0 : fra B ds (rnf E.rho k) fid tmps (.inRegion ops (i :: idx) :: items E.rho k) = (base B (rnf E.rho k) fid).atR ⟨tmps, ds⟩ (.inRegion ops (i :: idx) :: items E.rho k) := rfl
  rw [e0]
  unfold execS at hp
  have hput : ∀ v, (base B (rnf E.rho k) fid).atR ((⟨tmps, ds⟩ : Act).put o.dst v) (.inRegion ops idx :: items E.rho k) = fra B ds (rnf E.rho k) fid ((⟨tmps, ds⟩ : Act).put o.dst v).tmps (.inRegion ops idx :: items E.rho k) := fun v => by
    cases o.dst <;> rfl
  split at hp
  · rename_i p v h' hrs
    have hn := not_defer (T := C.T) (F := C.F) (t := t) (h := h) (o := o) (by rw [hrs]; intro e; cases e)
    rw [hrs] at hres
    obtain ⟨val, w', E', h1, h2, h3, h4⟩ := hres hp.1
    refine Goal.step (op_value (b := base B (rnf E.rho k) fid) (a := ⟨tmps, ds⟩) (k := items E.rho k) (cs := frs ++ cs) (rest := idx) hn ho hw h1) ?_
    rw [hput val, ← items_eq (fun nm hn => h4.rho nm hn) hkb, ← rnf_eq (fun nm hn => h4.rho nm hn) hkb]
    exact hR _ _ _ _ _ hp.2 hfs E' w' _ _ s ds (put_den (hd.ext h4) _ h2) h3 (hs.ext h4) (Nat.le_trans hsw h4.size) (hds.ext h4 h4.size) (by simp only [kb]; exact kb_le h4.nb hkb) (by simp only [InvK]; exact hi.ext h4 h4.size) (hx.trans h4) hb hfn
  · rename_i p h' hrs
    have hn := not_defer (T := C.T) (F := C.F) (t := t) (h := h) (o := o) (by rw [hrs]; intro e; cases e)
    rw [hrs] at hres
    obtain ⟨w', E', h1, h3, h4⟩ := hres hp.1
    refine Goal.step (op_skip (b := base B (rnf E.rho k) fid) (a := ⟨tmps, ds⟩) (k := items E.rho k) (cs := frs ++ cs) (rest := idx) hn ho hw h1) ?_
    rw [hput undef, ← items_eq (fun nm hn => h4.rho nm hn) hkb, ← rnf_eq (fun nm hn => h4.rho nm hn) hkb]
    exact hR _ _ _ _ _ hp.2 hfs E' w' _ _ s ds (put_den (hd.ext h4) _ (.any _)) h3 (hs.ext h4) (Nat.le_trans hsw h4.size) (hds.ext h4 h4.size) (by simp only [kb]; exact kb_le h4.nb hkb) (by simp only [InvK]; exact hi.ext h4 h4.size) (hx.trans h4) hb hfn
  · rename_i p v u h' hrs
    have hn := not_defer (T := C.T) (F := C.F) (t := t) (h := h) (o := o) (by rw [hrs]; intro e; cases e)
    rw [hrs] at hres
    obtain ⟨val, w', E', h1, h2, h3, h4⟩ := hres
    refine Goal.step (op_value (b := base B (rnf E.rho k) fid) (a := ⟨tmps, ds⟩) (k := items E.rho k) (cs := frs ++ cs) (rest := idx) hn ho hw h1) ?_
    rw [hput val, ← items_eq (fun nm hn => h4.rho nm hn) hkb, ← rnf_eq (fun nm hn => h4.rho nm hn) hkb]
    rcases h2 with ⟨hp1, h2⟩ | h2
    · exact hR _ _ _ _ _ (hp.1 hp1) hfs E' w' _ _ s ds (put_den (hd.ext h4) _ h2) h3 (hs.ext h4) (Nat.le_trans hsw h4.size) (hds.ext h4 h4.size) (by simp only [kb]; exact kb_le h4.nb hkb) (by simp only [InvK]; exact hi.ext h4 h4.size) (hx.trans h4) hb hfn
    · exact hR _ _ _ _ _ hp.2 hfs E' w' _ _ s ds (put_den (hd.ext h4) _ h2) h3 (hs.ext h4) (Nat.le_trans hsw h4.size) (hds.ext h4 h4.size) (by simp only [kb]; exact kb_le h4.nb hkb) (by simp only [InvK]; exact hi.ext h4 h4.size) (hx.trans h4) hb hfn
  · rename_i v hrs
    have hn := not_defer (T := C.T) (F := C.F) (t := t) (h := h) (o := o) (by rw [hrs]; intro e; cases e)
    rw [hrs] at hres
    obtain ⟨val, h1, h2⟩ := hres
    refine Goal.step (op_panic (b := base B (rnf E.rho k) fid) (a := ⟨tmps, ds⟩) (k := items E.rho k) (cs := frs ++ cs) (rest := idx) hn ho hw h1) ?_
    exact panQ_goal (todo := .inRegion ops (i :: idx) :: items E.rho k) hB hp hd hr hx h2 hs hds hb hfn hfs
  · rename_i g args hrs
    have hn := not_defer (T := C.T) (F := C.F) (t := t) (h := h) (o := o) (by rw [hrs]; intro e; cases e)
    rw [hrs] at hres
    obtain ⟨vals, h1, h2⟩ := hres
    refine Goal.step (op_enter (b := base B (rnf E.rho k) fid) (a := ⟨tmps, ds⟩) (k := items E.rho k) (cs := frs ++ cs) (rest := idx) hn ho hw h1) ?_
    exact goS_ok hC hB hN hR ho hp h2 hd hr hs hsw hds hkb hi hx hb hfn hfs
  · rename_i p g args h' hrs
    have hn := not_defer (T := C.T) (F := C.F) (t := t) (h := h) (o := o) (by rw [hrs]; intro e; cases e)
    rw [hrs] at hres
    obtain ⟨vals, E', h1, h2, h3, h4⟩ := hres hp.1
    refine Goal.step (op_enter (b := base B (rnf E.rho k) fid) (a := ⟨tmps, ds⟩) (k := items E.rho k) (cs := frs ++ cs) (rest := idx) hn ho hw h1) ?_
    have hgo := goS_ok hC hB hN hR ho hp.2 h2 (hd.ext h4) h3 (hs.ext h4) hsw (hds.ext h4 (Nat.le_refl _)) (kb_le h4.nb hkb) (hi.ext h4 (Nat.le_refl _)) (hx.trans h4) hb hfn hfs
    rw [← items_eq (fun nm hn => h4.rho nm hn) hkb, ← rnf_eq (fun nm hn => h4.rho nm hn) hkb]
    exact hgo
  · rename_i c n p v g u h' hrs
    have hn := not_defer (T := C.T) (F := C.F) (t := t) (h := h) (o := o) (by rw [hrs]; intro e; cases e)
    rw [hrs] at hres
    rcases hres hp.1 with ⟨j, val, w', E', q1, q2, h1, h2, h3, h4⟩ | ⟨q1, val, w', E', h1, h2, h3, h4⟩
    · refine Goal.step (op_value (b := base B (rnf E.rho k) fid) (a := ⟨tmps, ds⟩) (k := items E.rho k) (cs := frs ++ cs) (rest := idx) hn ho hw h1) ?_
      rw [hput val, ← items_eq (fun nm hn => h4.rho nm hn) hkb, ← rnf_eq (fun nm hn => h4.rho nm hn) hkb]
      exact hR _ _ _ _ _ (hp.2.1 j q1 q2) hfs E' w' _ _ s ds (put_den (hd.ext h4) _ h2) h3 (hs.ext h4) (Nat.le_trans hsw h4.size) (hds.ext h4 h4.size) (by simp only [kb]; exact kb_le h4.nb hkb) (by simp only [InvK]; exact hi.ext h4 h4.size) (hx.trans h4) hb hfn
    · refine Goal.step (op_value (b := base B (rnf E.rho k) fid) (a := ⟨tmps, ds⟩) (k := items E.rho k) (cs := frs ++ cs) (rest := idx) hn ho hw h1) ?_
      rw [hput val, ← items_eq (fun nm hn => h4.rho nm hn) hkb, ← rnf_eq (fun nm hn => h4.rho nm hn) hkb]
      exact hR _ _ _ _ _ (hp.2.2 q1) hfs E' w' _ _ s ds (put_den (hd.ext h4) _ h2) h3 (hs.ext h4) (Nat.le_trans hsw h4.size) (hds.ext h4 h4.size) (by simp only [kb]; exact kb_le h4.nb hkb) (by simp only [InvK]; exact hi.ext h4 h4.size) (hx.trans h4) hb hfn
  · rename_i nm rf rt assign body hrs
    have hn := not_defer (T := C.T) (F := C.F) (t := t) (h := h) (o := o) (by rw [hrs]; intro e; cases e)
    rw [hrs] at hres
    obtain ⟨rtmps, h1, h2, h3⟩ := hres
    refine Goal.step (op_round (b := base B (rnf E.rho k) fid) (a := ⟨tmps, ds⟩) (k := items E.rho k) (cs := frs ++ cs) (rest := idx) hn ho hw h1) ?_
    unfold roundS at hp
    split at hp
    · obtain ⟨v, val, h', E', w', q1, q2, q3, q4, q5⟩ := hp E w rtmps (fra B ds (rnf E.rho k) fid tmps (.inRegion ops (i :: idx) :: items E.rho k)) (frs ++ cs) hr h2 h3
      refine Goal.of_steps q1 ?_
      rw [fra_finish B ds _ fid tmps ops i idx _ _ ho, ← items_eq (fun nm hn => q4.rho nm hn) hkb, ← rnf_eq (fun nm hn => q4.rho nm hn) hkb]
      exact hR _ _ _ _ _ q2 hfs E' w' _ _ s ds (put_den (hd.ext q4) _ q5) q3 (hs.ext q4) (Nat.le_trans hsw q4.size) (hds.ext q4 q4.size) (by simp only [kb]; exact kb_le q4.nb hkb) (by simp only [InvK]; exact hi.ext q4 q4.size) (hx.trans q4) hb hfn
    · rename_i hD
      obtain ⟨hq1, hq2⟩ := hp
      have hround : Frame.round (E.rho nm) rf rtmps assign body .normal = fra B [] (rnf E.rho [.code assign, .beginR, .code body, .endR nm]) rf rtmps (items E.rho [.code assign, .beginR, .code body, .endR nm]) := by
        simp [Frame.round, fra, rnf, rnd, items, (hB.std hD).2.1]
      rw [hround]
      have := hR _ _ _ _ _ hq2 (fun h => absurd hD h) E w rtmps (fra B ds (rnf E.rho k) fid tmps (.inRegion ops (i :: idx) :: items E.rho k) :: frs) w.heap.size [] h2 hr (by
        simp only [StkOk]
        exact ⟨s, ds, tmps, hsw, Nat.le_refl _, by simp only [items]; rfl, hd, by simp only [kb]; exact hkb, hds, hfn, by simp only [InvK]; exact hi, hs⟩) (Nat.le_refl _) (no_marks (hB.std hD).1 _ _) (by simp only [kb]; exact ⟨h3, trivial⟩) (by simp only [InvK]) hx hb (by
          cases hf : C.FN rf with
          | none => rw [hf] at hq1; cases hq1
          | some fn => exact ⟨fn, hC.FN rf fn hf⟩)
      exact this
    · exact hp.elim
  · unfold stopQ at hp
    split at hp
    · exact hp.elim
    · rename_i l hD
      have h0 := hfs (by rw [hD]; simp)
      subst h0
      cases frs with
      | nil => cases hb; exact hB.stop l hD _ t h E w tmps s ds hp hd hr hx (by simp only [kb]; exact hkb) hds (stk_le hs)
      | cons _ _ => simp only [StkOk] at hs

theorem skip_goal (hB : BtOk C cs fid0 B E0 w0 Q) {R : Rn} (hR : Sound C cs fid0 B E0 w0 Q R) {fid : Nat} {ops : Array Oper} {i : Nat} {idx : List Nat} {k : List It} {t : List SV} {fs : List Fr} {h : HS} {o : Oper}
    (ho : ops[i]? = some o) {E : Env} {w : World} {tmps : Array Value} {frs : List Frame} {s : Nat} {ds : List Deferred} (hw : Region.wanted o (yielded ops tmps) = false)
    (hp : R fid (.reg ops idx :: k) (put t o.dst (.tup [])) fs h Q) (hd : DenA E w t tmps) (hr : RelH E h w) (hs : StkOk C cs B E w w0.heap.size s fs frs) (hsw : s ≤ w.heap.size) (hds : DsOk E w B s w.heap.size ds) (hkb : kb E.nb k)
    (hi : InvK C cs B E w s w.heap.size fid frs k) (hx : Ext E0 w0 E w) (hb : bot fid fs = fid0) (hfn : ∃ fn, C.P.funcs[fid]? = some fn) (hfs : C.D ≠ none → fs = []) :
    Goal C B (lone (fra B ds (rnf E.rho k) fid tmps (.inRegion ops (i :: idx) :: items E.rho k)) (frs ++ cs) w) := by
  refine Goal.step (stepR_op_skip (b := base B (rnf E.rho k) fid) (a := ⟨tmps, ds⟩) (k := items E.rho k) (cs := frs ++ cs) (rest := idx) (by simp [ho]; exact hw)) ?_
  have hput : (base B (rnf E.rho k) fid).atR ((⟨tmps, ds⟩ : Act).put ((ops[i]?).bind (·.dst)) undef) (.inRegion ops idx :: items E.rho k) = fra B ds (rnf E.rho k) fid ((⟨tmps, ds⟩ : Act).put o.dst undef).tmps (.inRegion ops idx :: items E.rho k) := by
    simp only [ho, Option.bind_some]
    cases o.dst <;> rfl
  rw [hput]
  exact hR _ _ _ _ _ hp hfs E w _ _ s ds (put_den hd _ (.tup #[] rfl (fun i x u hx => by simp at hx))) hr hs hsw hds (by simp only [kb]; exact hkb) (by simp only [InvK]; exact hi) hx hb hfn

theorem opS_ok (hC : CtxOk C) (hB : BtOk C cs fid0 B E0 w0 Q) {R R0 : Rn} (hN : Nests C R0) (hR : Sound C cs fid0 B E0 w0 Q R) {fid : Nat} {ops : Array Oper} {i : Nat} {idx : List Nat} {k : List It} {t : List SV} {fs : List Fr} {h : HS}
    {E : Env} {w : World} {tmps : Array Value} {frs : List Frame} {s : Nat} {ds : List Deferred}
    (hp : opS C R R0 (getO ops.toList i) fid ops i idx k t fs h Q) (hd : DenA E w t tmps) (hr : RelH E h w) (hs : StkOk C cs B E w w0.heap.size s fs frs) (hsw : s ≤ w.heap.size) (hds : DsOk E w B s w.heap.size ds) (hkb : kb E.nb k)
    (hi : InvK C cs B E w s w.heap.size fid frs k) (hx : Ext E0 w0 E w) (hb : bot fid fs = fid0) (hfn : ∃ fn, C.P.funcs[fid]? = some fn) (hfs : C.D ≠ none → fs = []) :
    Goal C B (lone (fra B ds (rnf E.rho k) fid tmps (.inRegion ops (i :: idx) :: items E.rho k)) (frs ++ cs) w) := by
  unfold opS at hp
  split at hp
  · rename_i dst op ty pos aft ho
    rw [getO_eq, Array.getElem?_toList] at ho
    exact execS_ok hC hB hN hR ho (by simp [Region.wanted]) hp hd hr hs hsw hds hkb hi hx hb hfn hfs
  · rename_i dst op ty pos aft j want ho
    rw [getO_eq, Array.getElem?_toList] at ho
    unfold guard1 at hp
    split at hp
    · rename_i d _ _ _ _ _ hj
      rw [getO_eq, Array.getElem?_toList] at hj
      unfold guardS at hp
      split at hp
      · rename_i q hq
        have hv := nth_bool hd hq
        have hy : yielded ops tmps j = some q := by simp [yielded, hj, hv]
        have main : ∀ b, q = b → wantS C R R0 b want ⟨dst, op, ty, pos, aft, some (j, want)⟩ fid ops i idx k (upd t d (.bool b)) fs h Q → Goal C B (lone (fra B ds (rnf E.rho k) fid tmps (.inRegion ops (i :: idx) :: items E.rho k)) (frs ++ cs) w) := by
          rintro b rfl hws
          have hd' := upd_same hd hv (.bool q)
          unfold wantS at hws
          split at hws
          · exact execS_ok hC hB hN hR ho (by simp [Region.wanted, hy]) hws hd' hr hs hsw hds hkb hi hx hb hfn hfs
          · exact execS_ok hC hB hN hR ho (by simp [Region.wanted, hy]) hws hd' hr hs hsw hds hkb hi hx hb hfn hfs
          · rename_i n1 n2
            refine skip_goal hB hR ho ?_ hws hd' hr hs hsw hds hkb hi hx hb hfn hfs
            cases q <;> cases want <;> simp_all [Region.wanted]
        cases q with
        | true => exact main true rfl (hp.1 rfl)
        | false => exact main false rfl (hp.2 rfl)
      · rename_i hq
        refine skip_goal hB hR ho ?_ hp hd hr hs hsw hds hkb hi hx hb hfn hfs
        have hv := nth_undef hd hq
        have hy : yielded ops tmps j = none := by simp [yielded, hj, hv]
        simp [Region.wanted, hy]
      · exact hp.elim
    · exact hp.elim
  · exact hp.elim
end
end Go.Eng
end

/- Regions whose order is drawn: what an operation looks at. -/
section
namespace Go.Eng
open Go.RowKit
set_option linter.unusedVariables false

theorem nth_upd_ne : ∀ (t : List SV) (d m : Nat) (v : SV), m ≠ d → nth (upd t d v) m = nth t m
  | [], _, _, _, _ => rfl
  | _ :: _, 0, 0, _, h => absurd rfl h
  | _ :: _, 0, _ + 1, _, _ => rfl
  | _ :: _, _ + 1, 0, _, _ => rfl
  | _ :: l, d + 1, m + 1, v, h => nth_upd_ne l d m v (fun e => h (by rw [e]))
theorem upd_nth : ∀ (t : List SV) (d : Nat), upd t d (nth t d) = t
  | [], _ => rfl
  | _ :: _, 0 => rfl
  | x :: l, d + 1 => by simp only [upd, nth, upd_nth l d]
theorem upd_upd : ∀ (t : List SV) (d : Nat) (v u : SV), upd (upd t d v) d u = upd t d u
  | [], _, _, _ => rfl
  | _ :: _, 0, _, _ => rfl
  | x :: l, d + 1, v, u => by simp only [upd, upd_upd l d v u]
theorem upd_comm : ∀ (t : List SV) (d e : Nat) (v u : SV), d ≠ e → upd (upd t d v) e u = upd (upd t e u) d v
  | [], _, _, _, _, _ => rfl
  | _ :: _, 0, 0, _, _, h => absurd rfl h
  | _ :: _, 0, _ + 1, _, _, _ => rfl
  | _ :: _, _ + 1, 0, _, _, _ => rfl
  | x :: l, d + 1, e + 1, v, u, h => by simp only [upd, upd_comm l d e v u (fun e' => h (by rw [e']))]
theorem upd_inj : ∀ (t : List SV) (d e : Nat) (v u : SV), d ≠ e → upd (upd t d v) e u = upd t d v → upd t e u = t
  | [], _, _, _, _, _, _ => rfl
  | _ :: _, 0, 0, _, _, h, _ => absurd rfl h
  | x :: l, 0, e + 1, v, u, _, h => by simp only [upd, List.cons.injEq, true_and] at h ⊢; exact h
  | x :: l, d + 1, 0, v, u, _, h => by simp only [upd, List.cons.injEq, and_true] at h ⊢; exact h
  | x :: l, d + 1, e + 1, v, u, hne, h => by
    simp only [upd, List.cons.injEq, true_and] at h ⊢
    exact upd_inj l d e v u (fun e' => hne (by rw [e'])) h

theorem ev_upd {t : List SV} {d : Nat} {v : SV} {x : Operand} (h : x ≠ .tmp d) : ev (upd t d v) x = ev t x := by
  cases x with
  | tmp m => exact nth_upd_ne t d m v (fun e => h (by rw [e]))
  | const v => rfl
  | global g => rfl
  | func f => rfl
theorem looks_op {ops : Array Oper} {o : Oper} {x : Operand} {d : Nat} (hx : x ∈ o.op.operands) (hd : d ∉ o.looksAt ops) : x ≠ .tmp d := by
  rintro rfl
  exact hd (List.mem_append_left _ (List.mem_filterMap.2 ⟨.tmp d, by simpa using hx, rfl⟩))

theorem evL_congr {t t' : List SV} : ∀ {l : List Operand}, (∀ x ∈ l, ev t x = ev t' x) → evL t l = evL t' l
  | [], _ => rfl
  | x :: l, h => by simp only [evL, h x (by simp), evL_congr (l := l) fun y hy => h y (by simp [hy])]
theorem evA_congr {T : Nat → Option TI} {t t' : List SV} : ∀ {l : List Operand} {tys : List TypeId}, (∀ x ∈ l, ev t x = ev t' x) → evA T t l tys = evA T t' l tys
  | [], _, _ => by simp only [evA]
  | x :: l, [], h => by simp only [evA, h x (by simp), evL_congr (l := l) fun y hy => h y (by simp [hy])]
  | x :: l, ty :: tys, h => by simp only [evA, ev1, h x (by simp), evA_congr (l := l) fun y hy => h y (by simp [hy])]
theorem evP_congr {t t' : List SV} : ∀ {l : List (Nat × Operand)}, (∀ x ∈ l, ev t x.2 = ev t' x.2) → evP t l = evP t' l
  | [], _ => rfl
  | (n, x) :: l, h => by simp only [evP, h (n, x) (by simp), evP_congr (l := l) fun y hy => h y (by simp [hy])]
theorem opRes_congr (T : Nat → Option TI) (F : Nat → Bool) {t t' : List SV} (h : HS) (o : Oper) (he : ∀ x ∈ o.op.operands, ev t x = ev t' x) : opRes T F t h o = opRes T F t' h o := by
  obtain ⟨dst, op, type, pos, after, guard⟩ := o
  have pairs : ∀ ps : Array (Nat × Operand), (∀ x ∈ ps.map (·.2), ev t x = ev t' x) → evP t ps.toList = evP t' ps.toList := fun ps hp =>
    evP_congr fun x hx => hp x.2 (Array.mem_map.2 ⟨x, by simpa using hx, rfl⟩)
  cases op <;> simp only [Op.operands] at he <;> simp only [opRes]
  case move x => unfold rMove; rw [he x (by simp)]
  case assign x => unfold rMove; rw [he x (by simp)]
  case build ty ps => rw [pairs ps fun x hx => he x (by simpa using hx)]
  case buildSlice ty n ps => rw [pairs ps fun x hx => he x (by simpa using hx)]
  case makeFunc fn first captured => rw [evL_congr (l := captured.toList) fun x hx => he x (by simp [show x ∈ captured by simpa using hx]), evL_congr (l := first.toList) fun x hx => he x (by simp [show x ∈ first by simpa using hx])]
  case slice ty x lo hi mx =>
    have h1 := he x (by simp)
    have h2 : evO t lo = evO t' lo := by
      cases lo with
      | none => rfl
      | some l => simp only [evO, he l (by simp)]
    have h3 : evO t hi = evO t' hi := by
      cases hi with
      | none => rfl
      | some l => simp only [evO, he l (by simp)]
    have h4 : evO t mx = evO t' mx := by
      cases mx with
      | none => rfl
      | some l => simp only [evO, he l (by simp)]
    simp only [h1, h2, h3, h4]
  case call c =>
    have hargs : evL t c.args.toList = evL t' c.args.toList := evL_congr fun x hx => he x (by simp [Call.operands, show x ∈ c.args by simpa using hx])
    have hargs2 : evA T t c.args.toList c.argTypes.toList = evA T t' c.args.toList c.argTypes.toList := evA_congr fun x hx => he x (by simp [Call.operands, show x ∈ c.args by simpa using hx])
    cases hc : c.callee with
    | value f => have hf := he f (by simp [Call.operands, hc]); simp only [hf, argsN, hargs, hargs2]
    | builtin b => simp only [hargs]
    | invoke r m => have hr := he r (by simp [Call.operands, hc]); simp only [hr, hargs]
  case makeMap ty r => cases r <;> rfl
  case next x b => cases b <;> first | rfl | (simp only [he x (by simp)])
  all_goals (first | rfl | (simp_all; done))

theorem flat_res (T : Nat → Option TI) (F : Nat → Bool) (t : List SV) {o : Oper} (hf : flat o = true) (G : Nat → Option Spec) (h h' : HS) {p : Prop} {v : SV}
    (hq : resQ G (opRes T F t h o) h = some (p, v)) (hp : p) : ∃ p', resQ G (opRes T F t h' o) h' = some (p', v) ∧ p' := by
  have val : ∀ (r : HS → Res), (∃ q u, ∀ h, r h = .val q u h) → resQ G (r h) h = some (p, v) → ∃ p', resQ G (r h') h' = some (p', v) ∧ p' := by
    rintro r ⟨q, u, hr⟩ hq
    rw [hr] at hq
    simp only [resQ, Option.some.injEq, Prod.mk.injEq] at hq
    obtain ⟨rfl, rfl⟩ := hq
    exact ⟨q ∧ h' = h', by rw [hr]; rfl, hp.1, rfl⟩
  have bad : resQ G Res.bad h = some (p, v) → False := fun e => by simp [resQ] at e
  obtain ⟨dst, op, type, pos, after, guard⟩ := o
  have mv : ∀ x, flat ⟨dst, .move x, type, pos, after, guard⟩ = true → resQ G (rMove T t h type x) h = some (p, v) → ∃ p', resQ G (rMove T t h' type x) h' = some (p', v) ∧ p' := by
    intro x hf hq
    have e : ∀ h, rMove T t h type x = .val True (ev t x) h := by
      intro h
      unfold rMove
      split
      · simp [flat] at hf
      · rfl
    exact val (fun h => rMove T t h type x) ⟨_, _, e⟩ hq
  cases op <;> (try simp only [flat] at hf) <;> (try (cases hf; done))
  case move x => exact mv x hf hq
  case assign x => exact mv x hf hq
  case pick a b c =>
    simp only [opRes, rPick] at hq ⊢
    split at hq
    · exact val (fun h => .val _ _ h) ⟨_, _, fun _ => rfl⟩ hq
    · exact (bad hq).elim
  case nilCheck x =>
    simp only [opRes, rNil] at hq ⊢
    split at hq <;> first
      | exact val (fun h => .val _ _ h) ⟨_, _, fun _ => rfl⟩ hq
      | exact (bad hq).elim
  case binOp op ty x y ty' =>
    simp only [opRes] at hq ⊢
    generalize ev t x = a at hq ⊢
    generalize ev t y = b at hq ⊢
    have ne : ∀ q, resQ G (neO op q h) h = some (p, v) → ∃ p', resQ G (neO op q h') h' = some (p', v) ∧ p' := by
      intro q hq
      unfold neO at hq ⊢
      split at hq <;> first
        | exact val (fun h => .val _ _ h) ⟨_, _, fun _ => rfl⟩ hq
        | exact (bad hq).elim
    unfold rBin3 at hq ⊢
    split at hq
    · unfold rEqNil at hq ⊢
      split at hq
      · split at hq
        · split at hq <;> first
            | exact val (fun h => .val _ _ h) ⟨_, _, fun _ => rfl⟩ hq
            | exact (bad hq).elim
            | (unfold vNil at hq; split at hq <;> simp [resQ] at hq)
        · exact (bad hq).elim
      · exact (bad hq).elim
    unfold rBin2 at hq ⊢
    split at hq
    · unfold rBin at hq ⊢
      split at hq <;> (try split at hq) <;> first
        | exact val (fun h => .val _ _ h) ⟨_, _, fun _ => rfl⟩ hq
        | exact (bad hq).elim
        | (simp_all only [if_true]; exact val (fun h => .val _ _ h) ⟨_, _, fun _ => rfl⟩ hq)
    · split at hq
      · unfold rEqB at hq ⊢
        split at hq
        · split at hq
          · exact ne _ hq
          · exact (bad hq).elim
        · exact (bad hq).elim
      · exact (bad hq).elim
    · split at hq
      · unfold rEqA at hq ⊢
        split at hq
        · split at hq
          · rename_i hi
            rw [if_pos hi]
            split at hq
            · split at hq
              · exact ne _ hq
              · exact (bad hq).elim
            · exact (bad hq).elim
          · exact (bad hq).elim
        · exact (bad hq).elim
      · exact (bad hq).elim
    · split at hq
      · unfold rEqI at hq ⊢
        split at hq
        · split at hq
          · rename_i hi
            rw [if_pos hi]
            exact ne _ hq
          · exact (bad hq).elim
        · exact (bad hq).elim
      · exact (bad hq).elim
    · split at hq
      · split at hq
        · rename_i hc
          rw [if_pos hc]
          unfold rEqI at hq ⊢
          split at hq
          · split at hq
            · rename_i hi
              rw [if_pos hi]
              exact ne _ hq
            · exact (bad hq).elim
          · exact (bad hq).elim
        · exact (bad hq).elim
      · exact (bad hq).elim
    · split at hq
      · split at hq
        · rename_i hc
          rw [if_pos hc]
          unfold rEqF at hq ⊢
          split at hq
          · split at hq
            · exact ne _ hq
            · exact (bad hq).elim
          · exact (bad hq).elim
        · exact (bad hq).elim
      · exact (bad hq).elim
    · split at hq
      · unfold rEqF at hq ⊢
        split at hq
        · split at hq
          · exact ne _ hq
          · exact (bad hq).elim
        · exact (bad hq).elim
      · exact (bad hq).elim
    · split at hq
      · unfold rEqF at hq ⊢
        split at hq
        · split at hq
          · exact ne _ hq
          · exact (bad hq).elim
        · exact (bad hq).elim
      · exact (bad hq).elim
    · split at hq
      · exact ne _ hq
      · exact (bad hq).elim
    · exact (bad hq).elim
  case unOp op ty x =>
    simp only [opRes, rUn] at hq ⊢
    generalize ev t x = a at hq ⊢
    split at hq <;> (try split at hq) <;> first
      | exact val (fun h => .val _ _ h) ⟨_, _, fun _ => rfl⟩ hq
      | exact (bad hq).elim
  case convert s d x =>
    simp only [opRes, rConvT, cvU, rConvB, rConv] at hq ⊢
    repeat' split at hq
    all_goals first
      | exact val (fun h => .val _ _ h) ⟨_, _, fun _ => rfl⟩ hq
      | exact (bad hq).elim
  case makeInterface ty x =>
    simp only [opRes, rIface] at hq ⊢
    split at hq
    · split at hq
      · exact (bad hq).elim
      · rename_i e; rw [if_neg e]; exact val (fun h => .val _ _ h) ⟨_, _, fun _ => rfl⟩ hq
    · exact (bad hq).elim
  case makeFunc fn first caps =>
    simp only [opRes, rFunc] at hq ⊢
    split at hq
    · exact val (fun h => .val _ _ h) ⟨_, _, fun _ => rfl⟩ hq
    · split at hq
      · exact val (fun h => .val _ _ h) ⟨_, _, fun _ => rfl⟩ hq
      · exact (bad hq).elim
    · exact (bad hq).elim
  case extract x k =>
    simp only [opRes, rExtract] at hq ⊢
    split at hq <;> (try split at hq) <;> first
      | exact val (fun h => .val _ _ h) ⟨_, _, fun _ => rfl⟩ hq
      | exact (bad hq).elim
      | (simp_all only [if_true]; exact val (fun h => .val _ _ h) ⟨_, _, fun _ => rfl⟩ hq)
end Go.Eng
end

/- Operations that call no function. -/
section
namespace Go.Eng
open Go.RowKit
set_option linter.unusedVariables false

def nc : Res → Prop
  | .call _ _ => False
  | .callN _ _ _ _ => False
  | _ => True
theorem nc_bin {op : BinOp} {a b : SV} {h : HS} : nc (rBin op a b h) := by
  unfold rBin; repeat' split
  all_goals trivial
theorem nc_neO {op : BinOp} {q : Bool} {h : HS} : nc (neO op q h) := by
  unfold neO; split <;> trivial
theorem nc_bin3 {ti : Option TI} {c nl : Bool} {op : BinOp} {a b : SV} {h : HS} : nc (rBin3 ti c op nl a b h) := by
  unfold rBin3 rEqNil vNil rBin2 rEqA rEqB rEqI rEqF; repeat' split
  all_goals first | exact nc_bin | exact nc_neO | trivial
theorem nc_store {ti : TI} {h : HS} {x y : SV} : nc (rStore ti h x y) := by
  unfold rStore; repeat' split
  all_goals trivial
theorem nc_storeN {T : Nat → Option TI} {ti : TI} {h : HS} {x y : SV} {b : Bool} : nc (rStoreN T h ti x b y) := by
  unfold rStoreN rStoreO skipAnd; repeat' split
  all_goals first | exact nc_store | trivial
theorem nc_cut {p : Prop} {id ver sz lo n : Nat} {h : HS} {l u : Option Int} {mx : Option SV} : nc (cutR p id ver sz lo n h l u mx) := by
  unfold cutR; repeat' split
  all_goals trivial
theorem nc_sl {te ti : TI} {g : Bool} {x : SV} {lo hi mx : Option SV} {h : HS} : nc (rSl te ti g x lo hi mx h) := by
  unfold rSl rSlR rSlG rSlice rSliceV sliV sliC; repeat' split
  all_goals first | exact nc_cut | trivial
theorem nc_box {o : Option TI} {e : TypeId} {y : SV} {h : HS} : nc (rBoxO h o e y) := by
  have hb : ∀ (y : SV) (h : HS), nc (rBox e y h) := fun y h => by unfold rBox; split <;> trivial
  unfold rBoxO; repeat' split
  all_goals exact hb _ _
theorem nc_lenI {es : List (List Int × List Int)} {h : HS} {o : Option (Nat × Nat × List Nat)} : nc (lenI es h o) := by
  unfold lenI; split <;> trivial
theorem nc_append {e : TypeId} {te : TI} {s x : SV} {h : HS} : nc (rAppend e te s x h) := by
  unfold rAppend apV apCX apX apC apN; repeat' split
  all_goals trivial
theorem nc_builtin {T : Nat → Option TI} {h : HS} {b : Builtin} {tys : List TypeId} {args : List SV} : nc (rBuiltin T h b tys args) := by
  unfold rBuiltin rLen rClear clrW clrV rCopy cpyB cpyV rMax rMin; repeat' split
  all_goals first | exact nc_append | exact nc_lenI | trivial
theorem nc_res {T : Nat → Option TI} {F : Nat → Bool} {t : List SV} {h : HS} {o : Oper} (hc : (match o.op with | .call c => (match c.callee with | .builtin _ => true | _ => false) | _ => true) = true) : nc (opRes T F t h o) := by
  obtain ⟨dst, op, type, pos, aft, guard⟩ := o
  cases op <;> simp only [opRes]
  case move x => unfold rMove; repeat' split
                 all_goals trivial
  case assign x => unfold rMove; repeat' split
                   all_goals trivial
  case pick => unfold rPick; split <;> trivial
  case nilCheck => unfold rNil; split <;> trivial
  case alloc => split <;> first | (unfold rAlloc; trivial) | trivial
  case box => exact nc_box
  case build => unfold rBuild fin2; repeat' split
                all_goals trivial
  case buildSlice => unfold rBuildSlice fin3; repeat' split
                     all_goals trivial
  case load => unfold rLoad; repeat' split
               all_goals trivial
  case store => split <;> first | exact nc_storeN | trivial
  case binOp => exact nc_bin3
  case unOp => unfold rUn; split <;> trivial
  case convert => simp only [rConvT, cvU, rConvB, rConv]; repeat' split
                  all_goals trivial
  case makeInterface => unfold rIface; repeat' split
                        all_goals trivial
  case makeFunc => unfold rFunc; repeat' split
                   all_goals trivial
  case makeSlice => unfold rMake; repeat' split
                    all_goals trivial
  case slice =>
    have ha : ∀ (n : Nat) (te : TI) (x : SV) (lo hi mx : Option SV), nc (rSlA n te x lo hi mx h) := fun n te x lo hi mx => by
      unfold rSlA; repeat' split
      all_goals trivial
    repeat' split
    all_goals first | exact nc_sl | exact ha _ _ _ _ _ _ | trivial
  case fieldAddr => unfold rField; repeat' split
                    all_goals trivial
  case indexAddr => unfold rIndex; repeat' split
                    all_goals trivial
  case typeAssert => unfold rAssert; repeat' split
                     all_goals trivial
  case extract => unfold rExtract; split <;> trivial
  case call c =>
    obtain ⟨callee, args, tys⟩ := c
    cases callee with
    | builtin b => exact nc_builtin
    | value f => cases hc
    | invoke r m => trivial
  case panic => unfold rPanic; split <;> trivial
  case makeMap ty n =>
    have hm : ∀ o, nc (mMk T h o) := fun o => by
      unfold mMk mMk2 rMakeMap mkMp; repeat' split
      all_goals trivial
    cases n with
    | none => exact hm _
    | some _ => trivial
  case lookup => unfold mLk mLk2 rLookup rLookB gLook; repeat' split
                 all_goals trivial
  case mapUpdate => unfold mUp mUp2 rUpdate rUpdB; repeat' split
                    all_goals trivial
  case insert => unfold mUp mUp2 rUpdate rUpdB; repeat' split
                 all_goals trivial
  case range => unfold rRange rRangeM; repeat' split
                all_goals trivial
  case next x b =>
    have hm : ∀ x, nc (rNext x h) := fun x => by
      unfold rNext rNextI rNextM; repeat' split
      all_goals trivial
    cases b with
    | false => exact hm _
    | true => trivial
  case entry => unfold rEntry rEntI rEntM; repeat' split
                all_goals trivial
  case field => unfold mFd rFld; repeat' split
                all_goals trivial
  case index => simp only [rIdx, rIdxS]; repeat' split
                all_goals trivial
  all_goals trivial

theorem nc_ops {T : Nat → Option TI} {F : Nat → Bool} {t : List SV} {h : HS} {ops : Array Oper} (hf : callFree ops = true) {i : Nat} {o : Oper} (ho : ops[i]? = some o) : nc (opRes T F t h o) :=
  nc_res (by
    simp only [callFree, Array.all_eq_true_iff_forall_mem] at hf
    exact hf o (Array.mem_of_getElem? ho))
end Go.Eng
end

/- Regions whose order is drawn: one way through stands for all. -/
section
namespace Go.Eng
open Go.RowKit
set_option linter.unusedVariables false

section
variable (C : Ctx) (ops : Array Oper) (X : List SV → SV → HS → Prop)
def wantedO (t : List SV) (o : Oper) : Option Bool :=
  match o.guard with
  | none => some true
  | some (j, want) => match (ops[j]?).bind (·.dst) with
    | some d => match nth t d with
      | .bool q => some (q == want)
      | .tup [] => some false
      | _ => none
    | none => none
def exR (r : Res) (dst : Option Nat) (K : List SV → HS → Prop) (t : List SV) (h : HS) : Prop :=
  match r with
  | .val p v h' => p ∧ K (put t dst v) h'
  | .skip p h' => p ∧ K (put t dst .any) h'
  | .call g args => CallsS C.P g args h (outK K X t dst)
  | .callN p g args h' => p ∧ CallsS C.P g args h' (outK K X t dst)
  | .round nm rf rt assign body => RoundS C.P nm rf rt assign body h (fun v h' => K (put t dst v) h')
  | _ => False
def exO (o : Oper) (K : List SV → HS → Prop) (t : List SV) (h : HS) : Prop :=
  match wantedO ops t o with
  | some true => exR C X (opRes C.T C.F t h o) o.dst K t h
  | some false => K (put t o.dst (.tup [])) h
  | none => False
def quO (o : Oper) (t : List SV) (h : HS) (v : SV) : Prop :=
  (wantedO ops t o = some true ∧ ∃ p, resQ C.G (opRes C.T C.F t h o) h = some (p, v) ∧ p) ∨ (wantedO ops t o = some false ∧ v = .tup [])
def reE (k : Nat) (t : List SV) (h : HS) : Prop :=
  ∃ o, ops[k]? = some o ∧ (wantedO ops t o = some true → ∃ p v, resQ C.G (opRes C.T C.F t h o) h = some (p, v) ∧ p ∧ put t o.dst v = t)
def anyE (K : List SV → HS → Prop) : Nat → Array Bool → List Nat → List SV → HS → Prop
  | 0, l, pd, t, h => (∀ k ∈ pd, reE C ops k t h) ∧ (Region.ready .any ops l = [] ∧ K t h)
  | n + 1, l, pd, t, h => (∀ k ∈ pd, reE C ops k t h) ∧ (Region.ready .any ops l = [] → K t h) ∧
    ∀ j ∈ Region.ready .any ops l, ∀ o, ops[j]? = some o → exO C ops X o (anyE K n (l.setIfInBounds j true) (pd.filter fun k => !bef ops j k)) t h
end

section
variable {C : Ctx} {ops : Array Oper} {X : List SV → SV → HS → Prop}

theorem outK_mono {K K' : List SV → HS → Prop} {t : List SV} {dst : Option Nat} (h : ∀ u h', K (put t dst u) h' → K' (put t dst u) h') (o : Out) (h' : HS) (hk : outK K X t dst o h') : outK K' X t dst o h' := by
  cases o with
  | ret v => exact h v h' hk
  | pan v => exact hk
  | fin _ _ => exact hk
  | stop _ _ => exact hk
  | rnd _ => exact hk
theorem CallsS.mono {P : Program} {g : Nat} {args : List SV} {h : HS} {K K' : Out → HS → Prop} (hc : CallsS P g args h K) (hk : ∀ o h', K o h' → K' o h') : CallsS P g args h K' := by
  intro E w vals hr hd
  refine (hc E w vals hr hd).mono ?_
  rintro e w' ⟨o, h', E', h1, h2⟩
  exact ⟨o, h', E', hk o h' h1, h2⟩
theorem RoundS.mono {P : Program} {nm rf : Nat} {rt : List SV} {assign body : Code} {h : HS} {K K' : SV → HS → Prop} (hc : RoundS P nm rf rt assign body h K) (hk : ∀ v h', K v h' → K' v h') : RoundS P nm rf rt assign body h K' := by
  intro E w tmps c cs hr hd hn
  obtain ⟨v, val, h', E', w', q1, q2, q3⟩ := hc E w tmps c cs hr hd hn
  exact ⟨v, val, h', E', w', q1, hk _ _ q2, q3⟩
theorem exO_mono {o : Oper} {K K' : List SV → HS → Prop} {t : List SV} {h : HS} (hk : ∀ u h', K (put t o.dst u) h' → K' (put t o.dst u) h') (he : exO C ops X o K t h) : exO C ops X o K' t h := by
  unfold exO at he ⊢
  split at he
  · unfold exR at he ⊢
    split at he
    · exact ⟨he.1, hk _ _ he.2⟩
    · exact ⟨he.1, hk _ _ he.2⟩
    · exact he.mono (outK_mono hk)
    · exact ⟨he.1, he.2.mono (outK_mono hk)⟩
    · exact he.mono (fun v h' => hk v h')
    · exact he.elim
  · exact hk _ _ he
  · exact he.elim

theorem wantedO_put {o : Oper} {t : List SV} {dst : Option Nat} {v : SV} (h : ∀ d, dst = some d → d ∉ o.looksAt ops) : wantedO ops (put t dst v) o = wantedO ops t o := by
  cases dst with
  | none => rfl
  | some d =>
    have hd := h d rfl
    unfold wantedO
    cases hg : o.guard with
    | none => rfl
    | some gw =>
      obtain ⟨g, want⟩ := gw
      simp only
      cases ht : (ops[g]?).bind (·.dst) with
      | none => rfl
      | some e =>
        have hne : e ≠ d := fun e' => hd (by subst e'; simp [Oper.looksAt, hg, ht])
        simp only [put, nth_upd_ne t d e v hne]
theorem opRes_put {o : Oper} {t : List SV} {dst : Option Nat} {v : SV} {h : HS} (hl : ∀ d, dst = some d → d ∉ o.looksAt ops) : opRes C.T C.F (put t dst v) h o = opRes C.T C.F t h o := by
  cases dst with
  | none => rfl
  | some d => exact opRes_congr _ _ h o (fun x hx => ev_upd (looks_op hx (hl d rfl)))
theorem put_comm {t : List SV} {a b : Option Nat} {v u : SV} (h : ∀ d, a = some d → b ≠ some d) : put (put t a v) b u = put (put t b u) a v := by
  cases a with
  | none => rfl
  | some d => cases b with
    | none => rfl
    | some e => exact upd_comm t d e v u (fun e' => h d rfl (by rw [e']))
theorem put_put {t : List SV} {a : Option Nat} {v u : SV} : put (put t a v) a u = put t a u := by
  cases a with
  | none => rfl
  | some d => exact upd_upd t d v u
theorem put_inj {t : List SV} {a b : Option Nat} {v u : SV} (h : ∀ d, a = some d → b ≠ some d) (he : put (put t a v) b u = put t a v) : put t b u = t := by
  cases b with
  | none => rfl
  | some e => cases a with
    | none => exact he
    | some d => exact upd_inj t d e v u (fun e' => h d rfl (by rw [e'])) he

theorem exO_swap {o : Oper} {dst : Option Nat} {v : SV} {K : List SV → HS → Prop} {t : List SV} {h : HS} (h1 : ∀ d, dst = some d → d ∉ o.looksAt ops) (h2 : ∀ d, dst = some d → o.dst ≠ some d) (hX : (∀ t u h, X (put t dst v) u h → X t u h) ∨ nc (opRes C.T C.F t h o))
    (he : exO C ops X o K (put t dst v) h) : exO C ops X o (fun t' h' => K (put t' dst v) h') t h := by
  unfold exO at he ⊢
  rw [wantedO_put h1] at he
  split at he
  · rw [opRes_put h1] at he
    unfold exR at he ⊢
    split at he
    · simp only; rw [← put_comm h2]; exact he
    · simp only; rw [← put_comm h2]; exact he
    · rename_i hres
      have hX := hX.resolve_right (by rw [hres]; exact id)
      refine CallsS.mono he ?_
      intro o' h' hk
      cases o' with
      | ret u => simp only [outK] at hk ⊢; rw [← put_comm h2]; exact hk
      | pan u => exact hX _ _ _ hk
      | fin _ _ => exact hk
      | stop _ _ => exact hk
      | rnd _ => exact hk
    · rename_i hres
      have hX := hX.resolve_right (by rw [hres]; exact id)
      refine ⟨he.1, CallsS.mono he.2 ?_⟩
      intro o' h' hk
      cases o' with
      | ret u => simp only [outK] at hk ⊢; rw [← put_comm h2]; exact hk
      | pan u => exact hX _ _ _ hk
      | fin _ _ => exact hk
      | stop _ _ => exact hk
      | rnd _ => exact hk
    · refine RoundS.mono he ?_
      intro u h' hk
      simp only at hk ⊢; rw [← put_comm h2]; exact hk
    · exact he.elim
  · rw [← put_comm h2]; exact he
  · exact he.elim

theorem exO_of_quO (hC : CtxOk C) {o : Oper} {K : List SV → HS → Prop} {t : List SV} {h : HS} {v : SV} (hq : quO C ops o t h v) (hk : K (put t o.dst v) h) : exO C ops X o K t h := by
  unfold exO
  rcases hq with ⟨hw, p, hr, hp⟩ | ⟨hw, rfl⟩
  · rw [hw]
    simp only
    unfold exR
    unfold resQ at hr
    split at hr
    · rename_i p' v' h' hres
      cases hr
      obtain ⟨hp, rfl⟩ := hp
      rw [hres]
      exact ⟨hp, hk⟩
    · rename_i g args hres
      split at hr
      · rename_i f hG
        rw [hres]
        unfold quietR at hr
        split at hr
        · rename_i p1 v1 h1 hf
          cases hr
          obtain ⟨hp, rfl⟩ := hp
          refine CallsS.mono (hC.G g f hG args h1 p1 _ _ hf hp) ?_
          rintro o' h' ⟨rfl, rfl⟩
          exact hk
        · cases hr
      · cases hr
    · cases hr
  · rw [hw]; exact hk

theorem anyE_less {K : List SV → HS → Prop} : ∀ (n : Nat) {l : Array Bool} {pd pd' : List Nat} {t : List SV} {h : HS}, (∀ k ∈ pd', k ∈ pd) → anyE C ops X K n l pd t h → anyE C ops X K n l pd' t h
  | 0, l, pd, pd', t, h, hs, ha => ⟨fun k hk => ha.1 k (hs k hk), ha.2⟩
  | n + 1, l, pd, pd', t, h, hs, ha => ⟨fun k hk => ha.1 k (hs k hk), ha.2.1, fun j hj o ho => exO_mono (fun u h' hx => anyE_less n (fun k hk => by
      rw [List.mem_filter] at hk ⊢
      exact ⟨hs k hk.1, hk.2⟩) hx) (ha.2.2 j hj o ho)⟩

/- ### the order -/
def Down (ops : Array Oper) (l : Array Bool) : Prop := l.size = ops.size ∧ ∀ j o, ops[j]? = some o → l.getD j false = true → ∀ e ∈ o.after, Region.binds .any e = true → l.getD e.on false = true
theorem Down.set {l : Array Bool} (h : Down ops l) {i : Nat} (hi : i ∈ Region.ready .any ops l) : Down ops (l.setIfInBounds i true) := by
  obtain ⟨h0, oi, hoi, hall⟩ := mem_ready.1 hi
  refine ⟨by simp [h.1], fun j o ho hj e he hb => ?_⟩
  by_cases hij : i = j
  · subst hij
    rw [hoi] at ho; cases ho
    exact getD_set_true (hall e he hb)
  · rw [getD_set_ne false hij] at hj
    exact getD_set_true (h.2 j o ho hj e he hb)
theorem befGo_listed {l : Array Bool} (h : Down ops l) (k : Nat) : ∀ (os : List Oper) (i m : Nat), (∀ a o, os[a]? = some o → ops[i + a]? = some o) → (∀ j, m.testBit j = true → (l.getD j false = true ∨ j ∈ Region.ready .any ops l) → l.getD k false = true) →
    ∀ j, (befGo k os i m).testBit j = true → (l.getD j false = true ∨ j ∈ Region.ready .any ops l) → l.getD k false = true
  | [], _, _, _, hm, j, hb, hj => hm j hb hj
  | o :: os, i, m, ho, hm, j, hb, hj => by
    simp only [befGo] at hb
    refine befGo_listed h k os (i + 1) _ (fun a o' ha => by have := ho (a + 1) o' (by simpa using ha); rw [show i + 1 + a = i + (a + 1) by omega]; exact this) ?_ j hb hj
    intro j' hb' hj'
    split at hb'
    · rename_i hany
      rw [Nat.testBit_or, Bool.or_eq_true, Nat.one_shiftLeft, Nat.testBit_two_pow] at hb'
      rcases hb' with hb' | hb'
      · exact hm j' hb' hj'
      · have hij : i = j' := by simpa using hb'
        subst hij
        obtain ⟨e, he, hbe⟩ := Array.any_eq_true'.1 hany
        simp only [Bool.and_eq_true, Bool.or_eq_true, beq_iff_eq] at hbe
        have ho0 : ops[i]? = some o := by have := ho 0 o (by simp); simpa using this
        have hl : l.getD e.on false = true := by
          rcases hj' with hj' | hj'
          · exact h.2 i o ho0 hj' e he hbe.1
          · obtain ⟨_, o', ho', hall⟩ := mem_ready.1 hj'
            rw [ho0] at ho'; cases ho'
            exact hall e he hbe.1
        rcases hbe.2 with hk | hk
        · subst hk; exact hl
        · exact hm e.on hk (.inl hl)
    · exact hm j' hb' hj'
theorem befF_listed {l : Array Bool} (h : Down ops l) (j k : Nat) (hb : bef ops j k = true) (hj : l.getD j false = true ∨ j ∈ Region.ready .any ops l) : l.getD k false = true := by
  refine befGo_listed h k _ _ 0 ?_ (by simp) j hb hj
  intro a o ha
  rw [List.getElem?_drop, List.getElem?_take] at ha
  split at ha
  · simpa using ha
  · cases ha
theorem unlisted {l : Array Bool} {i : Nat} (hl : l.size = ops.size) (h : i ∈ Region.ready .any ops l) : l.getD i false = false := by
  have h0 := (mem_ready.1 h).1
  by_cases hi : i < l.size
  · simpa [hi] using h0
  · simp [Array.getElem?_eq_none (Nat.le_of_not_lt hi)]

structure Ssa (ops : Array Oper) : Prop where
  dst : ∀ (a b : Nat) (oa ob : Oper) (d : Nat), ops[a]? = some oa → ops[b]? = some ob → a ≠ b → oa.dst = some d → ob.dst ≠ some d
  look : ∀ (a b : Nat) (oa ob : Oper) (d : Nat), ops[a]? = some oa → ops[b]? = some ob → oa.dst = some d → d ∈ ob.looksAt ops → a ≠ b ∧ (bef ops b a = true ∨ (bef ops a b = true ∧ flat ob = true))
theorem ssaOk_spec (h : ssaOk ops = true) : Ssa ops := by
  have key : ∀ (a b : Nat) (oa ob : Oper) (d : Nat), ops[a]? = some oa → ops[b]? = some ob → oa.dst = some d →
      (a = b ∨ ob.dst ≠ some d) ∧ (d ∈ ob.looksAt ops → a ≠ b ∧ (bef ops b a = true ∨ (bef ops a b = true ∧ flat ob = true))) := by
    intro a b oa ob d ha hb hd
    unfold ssaOk at h
    rw [List.all_eq_true] at h
    have h1 := h a (List.mem_range.2 (Array.getElem?_eq_some_iff.1 ha).1)
    simp only [ha, hd, List.all_eq_true] at h1
    have h2 := h1 b (List.mem_range.2 (Array.getElem?_eq_some_iff.1 hb).1)
    simp only [hb, Bool.and_eq_true, Bool.or_eq_true, beq_iff_eq, bne_iff_ne, Bool.not_eq_true'] at h2
    refine ⟨h2.1, fun hm => ?_⟩
    rcases h2.2 with h3 | h3
    · rw [List.contains_eq_mem] at h3; simp [hm] at h3
    · exact h3
  exact ⟨fun a b oa ob d ha hb hne hd => (key a b oa ob d ha hb hd).1.resolve_left hne, fun a b oa ob d ha hb hd hm => (key a b oa ob d ha hb hd).2 hm⟩

/-- A quiet operation that is ready may go first. -/
theorem anyE_first (hC : CtxOk C) (hS : Ssa ops) {K : List SV → HS → Prop} {i : Nat} {oi : Oper} (hi : ops[i]? = some oi) (hX : (∀ t v u h, X (put t oi.dst v) u h → X t u h) ∨ callFree ops = true) : ∀ (n : Nat) (l : Array Bool) (pd : List Nat) (t : List SV) (h : HS) (v : SV),
    Down ops l → (∀ k ∈ pd, l.getD k false = true ∧ flatAt ops k = false) → i ∈ Region.ready .any ops l → quO C ops oi t h v →
    anyE C ops X K n (l.setIfInBounds i true) (if flatAt ops i then pd else i :: pd) (put t oi.dst v) h → anyE C ops X K (n + 1) l pd t h := by
  have noSelf : ∀ d, oi.dst = some d → d ∉ oi.looksAt ops := fun d hd hm => (hS.look i i oi oi d hi hi hd hm).1 rfl
  have hdown : ∀ (n : Nat) {l : Array Bool} {pd : List Nat} {t : List SV} {h : HS}, anyE C ops X K n l pd t h → ∀ k ∈ pd, reE C ops k t h := fun n => by cases n <;> exact fun ha => ha.1
  -- what stood checked stays checked when i is put back
  have back : ∀ {l : Array Bool} {pd : List Nat} {t : List SV} {h : HS} {v : SV}, Down ops l → (∀ k ∈ pd, l.getD k false = true ∧ flatAt ops k = false) → i ∈ Region.ready .any ops l →
      (∀ k ∈ pd, reE C ops k (put t oi.dst v) h) → ∀ k ∈ pd, reE C ops k t h := by
    intro l pd t h v hd hp hr hre k hk
    obtain ⟨ok, hok, hw⟩ := hre k hk
    obtain ⟨hkl, hkf⟩ := hp k hk
    have hik := unlisted hd.1 hr
    have hne : i ≠ k := fun e => by subst e; rw [hik] at hkl; cases hkl
    have hlook : ∀ d, oi.dst = some d → d ∉ ok.looksAt ops := fun d hd' hm => by
      rcases (hS.look i k oi ok d hi hok hd' hm).2 with hb | ⟨_, hf⟩
      · have := befF_listed hd k i hb (.inl hkl); rw [hik] at this; cases this
      · simp [flatAt, hok, hf] at hkf
    refine ⟨ok, hok, fun hwt => ?_⟩
    obtain ⟨p, u, h1, h2, h3⟩ := hw (by rw [wantedO_put hlook]; exact hwt)
    rw [opRes_put hlook] at h1
    exact ⟨p, u, h1, h2, put_inj (fun d hd' => hS.dst i k oi ok d hi hok hne hd') h3⟩
  intro n
  induction n with
  | zero =>
    intro l pd t h v hd hp hr hq H
    have hH : ∀ k ∈ pd, reE C ops k (put t oi.dst v) h := fun k hk => hdown 0 H k (by split <;> simp [hk])
    refine ⟨back hd hp hr hH, fun h0 => (by rw [h0] at hr; cases hr), fun j hj o ho => ?_⟩
    by_cases hji : j = i
    · subst hji
      rw [hi] at ho; cases ho
      refine exO_of_quO hC hq (anyE_less 0 (fun k hk => ?_) H)
      rw [List.mem_filter] at hk
      split <;> simp [hk.1]
    · have := ready_mono hj hji
      rw [H.2.1] at this
      cases this
  | succ n ih =>
    intro l pd t h v hd hp hr hq H
    have hH : ∀ k ∈ pd, reE C ops k (put t oi.dst v) h := fun k hk => hdown _ H k (by split <;> simp [hk])
    refine ⟨back hd hp hr hH, fun h0 => (by rw [h0] at hr; cases hr), fun j hj o ho => ?_⟩
    by_cases hji : j = i
    · subst hji
      rw [hi] at ho; cases ho
      refine exO_of_quO hC hq (anyE_less _ (fun k hk => ?_) H)
      rw [List.mem_filter] at hk
      split <;> simp [hk.1]
    · have hij : i ≠ j := fun e => hji e.symm
      have uj := unlisted hd.1 hj
      have ui := unlisted hd.1 hr
      have bji : bef ops j i = false := by
        cases hb : bef ops j i
        · rfl
        · have := befF_listed hd j i hb (.inr hj); rw [ui] at this; cases this
      have bij : bef ops i j = false := by
        cases hb : bef ops i j
        · rfl
        · have := befF_listed hd i j hb (.inr hr); rw [uj] at this; cases this
      have l1 : ∀ d, oi.dst = some d → d ∉ o.looksAt ops := fun d hd' hm => by
        rcases (hS.look i j oi o d hi ho hd' hm).2 with hb | ⟨hb, _⟩
        · rw [bji] at hb; cases hb
        · rw [bij] at hb; cases hb
      have l2 : ∀ d, oi.dst = some d → o.dst ≠ some d := fun d hd' => hS.dst i j oi o d hi ho hij hd'
      have l3 : ∀ d, o.dst = some d → d ∉ oi.looksAt ops := fun d hd' hm => by
        rcases (hS.look j i o oi d ho hi hd' hm).2 with hb | ⟨hb, _⟩
        · rw [bij] at hb; cases hb
        · rw [bji] at hb; cases hb
      have hj1 := H.2.2 j (ready_mono hj hji) o ho
      have hj2 := exO_swap l1 l2 (hX.elim (fun hX => .inl (fun t u h => hX t v u h)) (fun hf => .inr (nc_ops hf ho))) hj1
      refine exO_mono (fun u h' hx => ?_) hj2
      have hcm : (l.setIfInBounds i true).setIfInBounds j true = (l.setIfInBounds j true).setIfInBounds i true := Array.setIfInBounds_comm _ _ hij
      rw [hcm] at hx
      have hfil : ((if flatAt ops i then pd else i :: pd).filter fun k => !bef ops j k) = if flatAt ops i then (pd.filter fun k => !bef ops j k) else i :: (pd.filter fun k => !bef ops j k) := by
        split
        · rfl
        · rw [List.filter_cons]; simp [bji]
      rw [hfil] at hx
      have hwt : wantedO ops (put t o.dst u) oi = wantedO ops t oi := wantedO_put l3
      have hrs : ∀ h, opRes C.T C.F (put t o.dst u) h oi = opRes C.T C.F t h oi := fun h => opRes_put l3
      have hd' := hd.set hj
      have hp' : ∀ k ∈ (pd.filter fun k => !bef ops j k), (l.setIfInBounds j true).getD k false = true ∧ flatAt ops k = false := fun k hk => by
        rw [List.mem_filter] at hk
        exact ⟨getD_set_true (hp k hk.1).1, (hp k hk.1).2⟩
      have hr' := ready_mono hr hij
      -- what i gives there
      rcases hq with ⟨hw, p, hres, hpp⟩ | ⟨hw, rfl⟩
      · by_cases hf : flatAt ops i = true
        · have hfo : flat oi = true := by simpa [flatAt, hi] using hf
          obtain ⟨p', h1, h2⟩ := flat_res C.T C.F t hfo C.G h h' hres hpp
          exact ih _ _ _ h' v hd' hp' hr' (.inl ⟨by rw [hwt]; exact hw, p', by rw [hrs]; exact h1, h2⟩) hx
        · simp only [hf, Bool.false_eq_true, if_false] at hx
          obtain ⟨ok, hok, hwk⟩ := hdown _ hx i (by simp)
          rw [hi] at hok; cases hok
          obtain ⟨p', v', h1, h2, h3⟩ := hwk (by rw [wantedO_put noSelf, hwt]; exact hw)
          rw [opRes_put noSelf] at h1
          rw [put_put] at h3
          rw [← h3] at hx
          exact ih _ _ _ h' v' hd' hp' hr' (.inl ⟨by rw [hwt]; exact hw, p', h1, h2⟩) (by simp only [hf, Bool.false_eq_true, if_false]; exact hx)
      · exact ih _ _ _ h' (.tup []) hd' hp' hr' (.inr ⟨by rw [hwt]; exact hw, rfl⟩) hx
end
end Go.Eng
end

/- Regions whose order is drawn: the plan stands for every order, and every order runs. -/
section
namespace Go.Eng
open Go.RowKit
set_option linter.unusedVariables false

section
variable {C : Ctx} {ops : Array Oper} {X : List SV → SV → HS → Prop} {Q : Out → HS → Prop} {R R0 : Rn}

theorem reS1_ok {C : Ctx} {o : Oper} {t : List SV} {h : HS} (hr : reS1 (resQ C.G (opRes C.T C.F t h o) h) o.dst t) : ∃ p v, resQ C.G (opRes C.T C.F t h o) h = some (p, v) ∧ p ∧ put t o.dst v = t := by
  generalize hres : resQ C.G (opRes C.T C.F t h o) h = r at hr
  generalize hd : o.dst = dst at hr ⊢
  unfold reS1 at hr
  split at hr
  · obtain ⟨hp, rfl⟩ := hr; exact ⟨_, _, rfl, hp, upd_nth t _⟩
  · exact ⟨_, _, rfl, hr, rfl⟩
  · exact hr.elim
theorem reO_ok {t : List SV} {h : HS} {k : Nat} (hr : reO C ops t h (getO ops.toList k)) : reE C ops k t h := by
  unfold reO at hr
  split at hr
  · rename_i dst op ty pos aft ho
    rw [getO_eq, Array.getElem?_toList] at ho
    exact ⟨_, ho, fun _ => reS1_ok (o := ⟨dst, op, ty, pos, aft, none⟩) hr⟩
  · rename_i dst op ty pos aft j want ho
    rw [getO_eq, Array.getElem?_toList] at ho
    split at hr
    · rename_i d _ _ _ _ _ hj
      rw [getO_eq, Array.getElem?_toList] at hj
      unfold reG at hr
      split at hr
      · rename_i b hb
        refine ⟨_, ho, fun hw => ?_⟩
        simp only [wantedO, hj, Option.bind_some, hb, Option.some.injEq, beq_iff_eq] at hw
        subst hw
        exact reS1_ok (o := ⟨dst, op, ty, pos, aft, some (j, b)⟩) (by unfold reW at hr; cases b <;> exact hr)
      · rename_i hb
        exact ⟨_, ho, fun hw => by simp [wantedO, hj, hb] at hw⟩
      · exact hr.elim
    · exact hr.elim
  · exact hr.elim
theorem reA_ok {t : List SV} {h : HS} : ∀ {re : List Nat}, reA C ops t h re → ∀ k ∈ re, reE C ops k t h
  | [], _, k, hk => by cases hk
  | x :: l, hr, k, hk => by
    simp only [reA] at hr
    rcases List.mem_cons.1 hk with rfl | hk
    · exact reO_ok hr.1
    · exact reA_ok hr.2 k hk

theorem goP_quiet {o : Oper} {S : List SV → HS → Prop} {t : List SV} {h : HS} (hg : goP C R0 X true o S t h) : ∃ v p, resQ C.G (opRes C.T C.F t h o) h = some (p, v) ∧ p ∧ S (put t o.dst v) h := by
  simp only [goP, qGo] at hg
  split at hg
  · rename_i p v hr; exact ⟨v, p, hr, hg.1, hg.2⟩
  · exact hg.elim
theorem lCall_ok (hC : CtxOk C) (hN : Nests C R0) {g : Nat} {args : List SV} {dst : Option Nat} {S : List SV → HS → Prop} {t : List SV} {h : HS} (hg : lCall C R0 X (C.G g) (C.inl g) g args dst S t h) : CallsS C.P g args h (outK S X t dst) := by
  unfold lCall at hg
  split at hg
  · rename_i f hG
    unfold aGo at hg
    split at hg
    · rename_i p v h1 hf
      refine CallsS.mono (hC.G g f hG args h p v h1 hf hg.1) ?_
      rintro o' h' ⟨rfl, rfl⟩
      exact hg.2
    · exact hg.elim
  · unfold nestS at hg
    split at hg
    · rename_i fn hFN
      split at hg
      · rename_i c hb; exact hN g fn c args h _ hFN hb hg
      · exact hg.elim
    · exact hg.elim
  · exact hg
theorem goP_loud (hC : CtxOk C) (hN : Nests C R0) {o : Oper} {S : List SV → HS → Prop} {t : List SV} {h : HS} (hg : goP C R0 X false o S t h) : exR C X (opRes C.T C.F t h o) o.dst S t h := by
  simp only [goP, lGo] at hg
  unfold exR
  split at hg
  · rename_i hr; rw [hr]; exact hg
  · rename_i hr; rw [hr]; exact hg
  · rename_i g args hr
    rw [hr]
    exact lCall_ok hC hN hg
  · rename_i p g args h1 hr
    rw [hr]
    exact ⟨hg.1, lCall_ok hC hN hg.2⟩
  · rename_i hr; rw [hr]; exact hg
  · exact hg.elim
theorem gate_sem {quiet : Bool} {i : Nat} {S : List SV → HS → Prop} {t : List SV} {h : HS} (hg : gate C R0 X ops quiet (getO ops.toList i) S t h) :
    ∃ o, ops[i]? = some o ∧ ((wantedO ops t o = some true ∧ goP C R0 X quiet o S t h) ∨ (wantedO ops t o = some false ∧ S (put t o.dst (.tup [])) h)) := by
  unfold gate at hg
  split at hg
  · rename_i dst op ty pos aft ho
    rw [getO_eq, Array.getElem?_toList] at ho
    exact ⟨_, ho, .inl ⟨rfl, hg⟩⟩
  · rename_i dst op ty pos aft j want ho
    rw [getO_eq, Array.getElem?_toList] at ho
    split at hg
    · rename_i d _ _ _ _ _ hj
      rw [getO_eq, Array.getElem?_toList] at hj
      refine ⟨_, ho, ?_⟩
      unfold gateG at hg
      split at hg
      · rename_i q hq
        have hw : wantedO ops t ⟨dst, op, ty, pos, aft, some (j, want)⟩ = some (q == want) := by
          simp only [wantedO, hj, Option.bind_some, hq]
        rw [hw]
        have hu : ∀ b, q = b → upd t d (.bool b) = t := fun b hb => by rw [← hb, ← hq]; exact upd_nth t d
        cases q with
        | true =>
          have := hg.1 rfl
          rw [hu true rfl] at this
          unfold gateW at this
          cases want with
          | true => exact .inl ⟨rfl, this⟩
          | false => exact .inr ⟨rfl, this⟩
        | false =>
          have := hg.2 rfl
          rw [hu false rfl] at this
          unfold gateW at this
          cases want with
          | true => exact .inr ⟨rfl, this⟩
          | false => exact .inl ⟨rfl, this⟩
      · rename_i hq
        exact .inr ⟨by simp [wantedO, hj, hq], hg⟩
      · exact hg.elim
    · exact hg.elim
  · exact hg.elim

theorem anyE_done {K : List SV → HS → Prop} {l : Array Bool} {pd : List Nat} {t : List SV} {h : HS} (hr : Region.ready .any ops l = []) (hre : ∀ k ∈ pd, reE C ops k t h) (hk : K t h) : ∀ n, anyE C ops X K n l pd t h
  | 0 => ⟨hre, hr, hk⟩
  | _ + 1 => ⟨hre, fun _ => hk, by rw [hr]; simp⟩

theorem okP_zero : ∀ (p : Plan) (l : Array Bool) (pd : List Nat), okP ops false p 0 l pd = false
  | .done, l, pd => by simp [okP]
  | .quiet i p, l, pd => by simp [okP]
  | .loud i re p, l, pd => by simp [okP]
  | .both p q, l, pd => by simp [okP, okP_zero p]

theorem plan_any (hX : (∀ (i : Nat) (o : Oper), ops[i]? = some o → ∀ t v u h, X (put t o.dst v) u h → X t u h) ∨ callFree ops = true) (hC : CtxOk C) (hS : Ssa ops) (hN : Nests C R0) {fid : Nat} {k : List It} {fs : List Fr} : ∀ (p : Plan) (top : Bool) (n : Nat) (l : Array Bool) (pd : List Nat) (t : List SV) (h : HS),
    okP ops top p n l pd = true → Down ops l → (∀ k ∈ pd, l.getD k false = true ∧ flatAt ops k = false) → (∀ k ∈ pd, reE C ops k t h) → planS C R R0 X Q fid ops k fs p t h →
    (top = true → anyE C ops X (fun t h => R fid k t fs h Q) n l pd t h) ∧
    (∀ m, n = m + 1 → ∀ j ∈ firsts p, j ∈ Region.ready .any ops l → ∀ o, ops[j]? = some o → exO C ops X o (anyE C ops X (fun t h => R fid k t fs h Q) m (l.setIfInBounds j true) (pd.filter fun k => !bef ops j k)) t h)
  | .done, top, n, l, pd, t, h, hok, hd, hp, hre, hrun => by
    simp only [okP, Bool.and_eq_true, List.isEmpty_iff] at hok
    simp only [planS] at hrun
    exact ⟨fun _ => anyE_done hok.2 hre hrun n, fun m hm j hj => by simp [firsts] at hj⟩
  | .quiet i p, top, 0, l, pd, t, h, hok, hd, hp, hre, hrun => by simp [okP] at hok
  | .quiet i p, top, n + 1, l, pd, t, h, hok, hd, hp, hre, hrun => by
    simp only [okP, Bool.and_eq_true, List.contains_eq_mem, decide_eq_true_eq] at hok
    obtain ⟨⟨ht, hir⟩, hok'⟩ := hok
    simp only [planS] at hrun
    obtain ⟨oi, hoi, hcase⟩ := gate_sem hrun
    have hq : ∃ v, quO C ops oi t h v ∧ planS C R R0 X Q fid ops k fs p (put t oi.dst v) h := by
      rcases hcase with ⟨hw, hg⟩ | ⟨hw, hg⟩
      · obtain ⟨v, p', h1, h2, h3⟩ := goP_quiet hg
        exact ⟨v, .inl ⟨hw, p', h1, h2⟩, h3⟩
      · exact ⟨.tup [], .inr ⟨hw, rfl⟩, hg⟩
    obtain ⟨v, hqu, hrun'⟩ := hq
    have ui := unlisted hd.1 hir
    have noSelf : ∀ d, oi.dst = some d → d ∉ oi.looksAt ops := fun d hd' hm => (hS.look i i oi oi d hoi hoi hd' hm).1 rfl
    have hsz : i < l.size := by rw [hd.1]; exact (Array.getElem?_eq_some_iff.1 hoi).1
    have hre' : ∀ k ∈ (if flatAt ops i then pd else i :: pd), reE C ops k (put t oi.dst v) h := by
      have old : ∀ k ∈ pd, reE C ops k (put t oi.dst v) h := by
        intro k hk
        obtain ⟨ok, hok, hw⟩ := hre k hk
        obtain ⟨hkl, hkf⟩ := hp k hk
        have hne : i ≠ k := fun e => by subst e; rw [ui] at hkl; cases hkl
        have hlook : ∀ d, oi.dst = some d → d ∉ ok.looksAt ops := fun d hd' hm => by
          rcases (hS.look i k oi ok d hoi hok hd' hm).2 with hb | ⟨_, hf⟩
          · have := befF_listed hd k i hb (.inl hkl); rw [ui] at this; cases this
          · simp [flatAt, hok, hf] at hkf
        refine ⟨ok, hok, fun hwt => ?_⟩
        obtain ⟨p', u, h1, h2, h3⟩ := hw (by rw [wantedO_put hlook] at hwt; exact hwt)
        refine ⟨p', u, by rw [opRes_put hlook]; exact h1, h2, ?_⟩
        rw [put_comm (fun d hd' => hS.dst i k oi ok d hoi hok hne hd'), h3]
      split
      · exact old
      · intro k hk
        rcases List.mem_cons.1 hk with rfl | hk
        · refine ⟨oi, hoi, fun hwt => ?_⟩
          rw [wantedO_put noSelf] at hwt
          rcases hqu with ⟨hw, p', h1, h2⟩ | ⟨hw, _⟩
          · exact ⟨p', v, by rw [opRes_put noSelf]; exact h1, h2, put_put⟩
          · rw [hw] at hwt; cases hwt
        · exact old k hk
    have hp' : ∀ k ∈ (if flatAt ops i then pd else i :: pd), (l.setIfInBounds i true).getD k false = true ∧ flatAt ops k = false := by
      have old : ∀ k ∈ pd, (l.setIfInBounds i true).getD k false = true ∧ flatAt ops k = false := fun k hk => ⟨getD_set_true (hp k hk).1, (hp k hk).2⟩
      split
      · exact old
      · rename_i hf
        intro k hk
        rcases List.mem_cons.1 hk with rfl | hk
        · exact ⟨by simp [hsz], by simpa using hf⟩
        · exact old k hk
    have ih := (plan_any hX hC hS hN p true n _ _ _ h hok' (hd.set hir) hp' hre' hrun').1 rfl
    exact ⟨fun _ => anyE_first hC hS hoi (hX.imp (fun hX => hX i oi hoi) id) n l pd t h v hd hp hir hqu ih, fun m hm j hj => by simp [firsts] at hj⟩
  | .loud i re p, top, 0, l, pd, t, h, hok, hd, hp, hre, hrun => by simp [okP] at hok
  | .loud i re p, top, n + 1, l, pd, t, h, hok, hd, hp, hre, hrun => by
    simp only [okP, Bool.and_eq_true, Bool.or_eq_true, Bool.not_eq_true', List.all_eq_true, beq_iff_eq, List.contains_eq_mem, decide_eq_true_eq] at hok
    obtain ⟨⟨htop, hfil⟩, hok'⟩ := hok
    simp only [planS] at hrun
    obtain ⟨oi, hoi, hcase⟩ := gate_sem hrun
    have hex : exO C ops X oi (thenS C ops re (planS C R R0 X Q fid ops k fs p)) t h := by
      unfold exO
      rcases hcase with ⟨hw, hg⟩ | ⟨hw, hg⟩
      · rw [hw]; exact goP_loud hC hN hg
      · rw [hw]; exact hg
    have main : i ∈ Region.ready .any ops l → exO C ops X oi (anyE C ops X (fun t h => R fid k t fs h Q) n (l.setIfInBounds i true) (pd.filter fun k => !bef ops i k)) t h := fun hir => by
      refine exO_mono (fun u h' hx => ?_) hex
      have hra := reA_ok hx.1
      refine (plan_any hX hC hS hN p true n _ _ _ h' hok' (hd.set hir) (fun k hk => ?_) (fun k hk => hra k (hfil k hk)) hx.2).1 rfl
      rw [List.mem_filter] at hk
      exact ⟨getD_set_true (hp k hk.1).1, (hp k hk.1).2⟩
    refine ⟨fun ht => ?_, fun m hm j hj hjr o ho => ?_⟩
    · rcases htop with h0 | ⟨hall, hin⟩
      · rw [ht] at h0; cases h0
      · refine ⟨hre, fun h0 => (by rw [h0] at hin; cases hin), fun j hj o ho => ?_⟩
        have := hall j hj
        subst this
        rw [hoi] at ho; cases ho
        exact main hj
    · simp only [firsts, List.mem_singleton] at hj
      subst hj
      rw [hoi] at ho; cases ho
      have : m = n := by omega
      subst this
      exact main hjr
  | .both p q, top, n, l, pd, t, h, hok, hd, hp, hre, hrun => by
    simp only [okP, Bool.and_eq_true, Bool.or_eq_true, Bool.not_eq_true', List.all_eq_true] at hok
    obtain ⟨⟨htop, hok1⟩, hok2⟩ := hok
    simp only [planS] at hrun
    have h1 := (plan_any hX hC hS hN p false n l pd t h hok1 hd hp hre hrun.1).2
    have h2 := (plan_any hX hC hS hN q false n l pd t h hok2 hd hp hre hrun.2).2
    have hboth : ∀ m, n = m + 1 → ∀ j ∈ firsts p ++ firsts q, j ∈ Region.ready .any ops l → ∀ o, ops[j]? = some o → exO C ops X o (anyE C ops X (fun t h => R fid k t fs h Q) m (l.setIfInBounds j true) (pd.filter fun k => !bef ops j k)) t h := fun m hm j hj hjr o ho => by
      rcases List.mem_append.1 hj with hj | hj
      · exact h1 m hm j hj hjr o ho
      · exact h2 m hm j hj hjr o ho
    refine ⟨fun ht => ?_, fun m hm j hj => hboth m hm j (by simpa only [firsts] using hj)⟩
    cases n with
    | zero => rw [okP_zero] at hok1; cases hok1
    | succ m =>
      rcases htop with h0 | ⟨hall, hne⟩
      · rw [ht] at h0; cases h0
      · exact ⟨hre, fun h0 => (by rw [h0] at hne; simp at hne), fun j hj o ho => hboth m rfl j (by simpa using hall j hj) hj o ho⟩

/- ### one order -/
def ordE (C : Ctx) (ops : Array Oper) (X : List SV → SV → HS → Prop) (K : List SV → HS → Prop) : List Nat → List SV → HS → Prop
  | [], t, h => K t h
  | i :: idx, t, h => match ops[i]? with
    | some o => exO C ops X o (ordE C ops X K idx) t h
    | none => False

theorem any_ord {K : List SV → HS → Prop} : ∀ (fuel : Nat) (tp : Nat) (l : Array Bool) (pd : List Nat) (t : List SV) (h : HS), anyE C ops X K fuel l pd t h → ordE C ops X K (Region.linearise.go .any ops fuel tp l []) t h := by
  intro fuel
  induction fuel with
  | zero => intro tp l pd t h ha; simpa [Region.linearise.go, ordE] using ha.2.2
  | succ fuel ih =>
    intro tp l pd t h ha
    obtain ⟨_, h0, h1⟩ := ha
    simp only [Region.linearise.go]
    change ordE C ops X K (match (Region.ready .any ops l)[tp % (Region.ready .any ops l).length]? with
      | some i => Region.linearise.go .any ops fuel (tp / (Region.ready .any ops l).length) (l.setIfInBounds i true) [i]
      | none => [].reverse) t h
    cases hi : (Region.ready .any ops l)[tp % (Region.ready .any ops l).length]? with
    | none =>
      have hnil : Region.ready .any ops l = [] := by
        cases hr : Region.ready .any ops l with
        | nil => rfl
        | cons x xs =>
          rw [hr] at hi
          have hlt : tp % (x :: xs).length < (x :: xs).length := Nat.mod_lt _ (by simp)
          simp at hi
          simp at hlt
          omega
      simpa [ordE] using h0 hnil
    | some i =>
      have him := List.mem_of_getElem? hi
      obtain ⟨_, o, ho, _⟩ := mem_ready.1 him
      simp only []
      rw [linearise_go_acc, List.reverse_singleton, List.singleton_append]
      simp only [ordE, ho]
      exact exO_mono (fun u h' hx => ih _ _ _ _ h' hx) (h1 i him o ho)
end

section
variable {C : Ctx} {cs : List Frame} {fid0 : Nat} {B : Bt} {E0 : Env} {w0 : World} {Q : Out → HS → Prop}

/-- The context that leaves every call as an obligation. -/
def bare (C : Ctx) : Ctx := { C with inl := fun _ => false, G := fun _ => none, rs := true }
theorem bare_ok (hC : CtxOk C) : CtxOk (bare C) := ⟨hC.T, hC.F, hC.FN, fun g f h => by simp [bare] at h, hC.mix⟩

theorem InvK_bare {C : Ctx} {cs : List Frame} {B : Bt} {E : Env} {w : World} {s u fid : Nat} {frs : List Frame} : ∀ {k : List It}, InvK (bare C) cs B E w s u fid frs k = InvK C cs B E w s u fid frs k
  | [] => rfl
  | .inv ι st μ i body :: k => by
    simp only [InvK, InvK_bare (k := k)]
    rfl
  | .code _ :: k => by simp only [InvK, InvK_bare (k := k)]
  | .blk _ :: k => by simp only [InvK, InvK_bare (k := k)]
  | .reg _ _ :: k => by simp only [InvK, InvK_bare (k := k)]
  | .inRng _ :: k => by simp only [InvK, InvK_bare (k := k)]
  | .endRng _ :: k => by simp only [InvK, InvK_bare (k := k)]
  | .beginR :: k => by simp only [InvK, InvK_bare (k := k)]
  | .aga _ :: k => by simp only [InvK, InvK_bare (k := k)]
  | .scp _ :: k => by simp only [InvK, InvK_bare (k := k)]
  | .endR _ :: k => by simp only [InvK]
theorem StkOk_bare {C : Ctx} {cs : List Frame} {B : Bt} {E : Env} {w : World} {s0 : Nat} : ∀ {s : Nat} {fs : List Fr} {frs : List Frame}, StkOk (bare C) cs B E w s0 s fs frs = StkOk C cs B E w s0 s fs frs
  | _, [], [] => by simp only [StkOk]
  | _, [], _ :: _ => by simp only [StkOk]
  | _, ⟨_, _, _⟩ :: _, [] => by simp only [StkOk]
  | s, ⟨fid, k, t⟩ :: fs, fr :: frs => by
    have ih : ∀ s', StkOk (bare C) cs B E w s0 s' fs frs = StkOk C cs B E w s0 s' fs frs := fun s' => StkOk_bare (s := s') (fs := fs) (frs := frs)
    simp only [StkOk, InvK_bare, ih]
    rfl

theorem exO_opS {ops : Array Oper} {i : Nat} {o : Oper} (ho : ops[i]? = some o) {K : List SV → HS → Prop} {R R0 : Rn} {fid : Nat} {idx : List Nat} {k : List It} {t : List SV} {fs : List Fr} {h : HS}
    (hK : ∀ t h, K t h → R fid (.reg ops idx :: k) t fs h Q) (he : exO C ops (panQ C.D Q) o K t h) : opS (bare C) R R0 (getO ops.toList i) fid ops i idx k t fs h Q := by
  have hex : ∀ {r : Res}, exR C (panQ C.D Q) r o.dst K t h → execS (bare C) R R0 r fid ops i idx o.dst k t fs h Q := by
    intro r hr
    unfold exR at hr
    unfold execS
    split at hr
    · exact ⟨hr.1, hK _ _ hr.2⟩
    · exact ⟨hr.1, hK _ _ hr.2⟩
    · simp only [bare, goS, callS]
      refine CallsS.mono hr ?_
      intro o' h' hk
      cases o' with
      | ret v => exact hK _ _ hk
      | pan v => exact hk
      | fin _ _ => exact hk
      | stop _ _ => exact hk
      | rnd _ => exact hk
    · simp only [bare, goS, callS]
      refine ⟨hr.1, CallsS.mono hr.2 ?_⟩
      intro o' h' hk
      cases o' with
      | ret v => exact hK _ _ hk
      | pan v => exact hk
      | fin _ _ => exact hk
      | stop _ _ => exact hk
      | rnd _ => exact hk
    · simp only [bare, roundS]
      exact RoundS.mono hr (fun v h' hk => hK _ _ hk)
    · exact hr.elim
  obtain ⟨dst, op, ty, pos, aft, guard⟩ := o
  rw [getO_eq, Array.getElem?_toList, ho]
  unfold exO at he
  cases guard with
  | none =>
    simp only [wantedO] at he
    exact hex he
  | some gw =>
    obtain ⟨j, want⟩ := gw
    simp only [wantedO] at he
    simp only [opS, guard1]
    rw [getO_eq, Array.getElem?_toList]
    cases hj : ops[j]? with
    | none => simp [hj] at he
    | some oj =>
      obtain ⟨dj, _, _, _, _, _⟩ := oj
      cases dj with
      | none => simp [hj] at he
      | some d =>
        simp only [hj, Option.bind_some] at he
        simp only
        cases hv : nth t d <;> simp only [hv] at he <;> try (exact he.elim)
        rotate_left
        · rename_i lt
          cases lt with
          | nil => simp only [guardS]; exact hK _ _ he
          | cons _ _ => exact he.elim
        rename_i q
        simp only [guardS]
        have hu : ∀ b, q = b → upd t d (.bool b) = t := fun b hb => by rw [← hb, ← hv]; exact upd_nth t d
        refine ⟨fun hq => ?_, fun hq => ?_⟩
        · rw [hu true hq]
          subst hq
          cases want with
          | true => exact hex he
          | false => exact hK _ _ he
        · rw [hu false hq]
          subst hq
          cases want with
          | true => exact hK _ _ he
          | false => exact hex he

theorem ord_goal (hC : CtxOk C) (hB : BtOk (bare C) cs fid0 B E0 w0 Q) {R R0 : Rn} (hN : Nests C R0) (hR : Sound C cs fid0 B E0 w0 Q R) {fid : Nat} {ops : Array Oper} {k : List It} {fs : List Fr} : ∀ (idx : List Nat),
    Sound (bare C) cs fid0 B E0 w0 Q (fun fid' k' t fs' h _ => (fid' = fid ∧ k' = .reg ops idx :: k ∧ fs' = fs) ∧ ordE C ops (panQ C.D Q) (fun t h => R fid k t fs h Q) idx t h)
  | [], fid', k', t, fs', h, hp, hfs, E, w, tmps, frs, s, ds, hd, hr, hs, hsw, hds, hkb, hi, hx, hb, hfn => by
    obtain ⟨⟨rfl, rfl, rfl⟩, hp⟩ := hp
    simp only [kb] at hkb
    exact Goal.step (stepR_region_end (b := base B (rnf E.rho k) fid') (a := ⟨tmps, ds⟩) (cs := frs ++ cs)) (hR _ _ _ _ _ hp hfs E w _ _ s ds hd hr (by rw [← StkOk_bare]; exact hs) hsw hds hkb (by simpa only [InvK, InvK_bare] using hi) hx hb hfn)
  | i :: idx, fid', k', t, fs', h, hp, hfs, E, w, tmps, frs, s, ds, hd, hr, hs, hsw, hds, hkb, hi, hx, hb, hfn => by
    obtain ⟨⟨rfl, rfl, rfl⟩, hp⟩ := hp
    simp only [ordE] at hp
    simp only [kb] at hkb
    split at hp
    · rename_i o ho
      exact opS_ok (bare_ok hC) hB (R0 := R0) hN (ord_goal hC hB hN hR idx) (exO_opS ho (fun t h hk => ⟨⟨rfl, rfl, rfl⟩, hk⟩) hp) hd hr hs hsw hds hkb (by simpa only [InvK] using hi) hx hb hfn hfs
    · exact hp.elim
end
end Go.Eng
end

/- The symbolic machine is right: the whole. -/
section
namespace Go.Eng
open Go.RowKit
set_option linter.unusedVariables false

section
variable {C : Ctx}
def Bt.std (P : Program) (fid0 : Nat) (cs : List Frame) (R1 : Ending → World → Prop) : Bt := { ds := [], kd := .normal, Fin := fun e m => ∃ fr w, m = lone fr cs w ∧ R1 e w ∧ fr.fn = fid0 ∧ fr.leaving P w e }
theorem Bt.std_ok {C : Ctx} (hD : C.D = none) (hrd : C.rd = false) (cs : List Frame) (fid0 : Nat) (E0 : Env) (w0 : World) (Q : Out → HS → Prop) : BtOk C cs fid0 (Bt.std C.P fid0 cs (Rel0 E0 w0 Q)) E0 w0 Q :=
  ⟨fun _ => ⟨rfl, rfl, fun fr w e h1 h2 h3 => ⟨fr, w, rfl, h1, h2, h3⟩⟩, fun l hl => (by rw [hD] at hl; cases hl), fun l hl => (by rw [hD] at hl; cases hl), fun _ h => (by rw [hrd] at h; cases h)⟩
theorem nests_of (hC : CtxOk C) {R : Rn} (hR : ∀ cs fid0 B E0 w0 Q, BtOk C.off cs fid0 B E0 w0 Q → Sound C.off cs fid0 B E0 w0 Q R) : Nests C R := by
  intro g fn c args h K hFN hb hrun E w vals hr hd cs
  have hf := hC.FN g fn hFN
  have hs := hR cs g (Bt.std C.P g cs (Rel0 E w K)) E w K (Bt.std_ok (C := C.off) rfl rfl cs g E w K) g _ _ [] h hrun (fun _ => rfl) E w (vals ++ Array.replicate (fn.ntmps - vals.size) undef) [] w.heap.size [] (fill_den hd _) hr (by simp only [StkOk]; exact Nat.le_refl _) (Nat.le_refl _) (no_marks rfl _ _) (by simp only [kb]) (by simp only [InvK]) (Ext.refl E w) rfl ⟨fn, hf⟩
  obtain ⟨e, m', ⟨fr, w', rfl, ⟨o, h', E', q1, q2, q3, q4⟩, hfn, hl⟩, hc⟩ := hs
  rw [enter_fra (B := Bt.std C.P g cs (Rel0 E w K)) rfl hf hb]
  refine ⟨e, w', fr, ⟨o, h', E', q1, q2, q3, ?_⟩, hc, hfn, hl⟩
  cases o <;> cases e <;> exact q4
theorem stepR_scope {P : Program} {b : Frame} {a : Act} {k : List Item} {cs : List Frame} {w : World} {c : Code} : step P (lone (b.atR a (.code (.scope c) :: k)) cs w) = .next (lone (b.atR a (.code c :: .inScope c :: k)) cs w) :=
  step_lone_go (by simp [stepG, stepG.exec, Frame.atR])
theorem stepR_inScope {P : Program} {b : Frame} {a : Act} {k : List Item} {cs : List Frame} {w : World} {c : Code} : step P (lone (b.atR a (.inScope c :: k)) cs w) = .next (lone (b.atR a k) cs w) :=
  step_lone_go (by simp [stepG, stepG.exec, Frame.atR])
theorem CtxOk.off (hC : CtxOk C) : CtxOk C.off := ⟨hC.T, hC.F, hC.FN, hC.G, hC.mix⟩

theorem keepN_put {l : List Nat} {d : Nat} (hd : d ∉ l) (t : List SV) (v : SV) : keepN (upd t d v) l = keepN t l := by
  induction l with
  | nil => rfl
  | cons k l ih =>
    simp only [List.mem_cons, not_or] at hd
    simp only [keepN, nth_upd_ne t d k v (fun e => hd.1 e.symm), ih hd.2]
theorem keep_panQ {C : Ctx} {ops : Array Oper} {Q : Out → HS → Prop} (hk : ∀ l, C.D = some l → keepW ops l = true) {i : Nat} {o : Oper} (ho : ops[i]? = some o) (t : List SV) (v u : SV) (h : HS) (hx : panQ C.D Q (put t o.dst v) u h) : panQ C.D Q t u h := by
  unfold panQ at hx ⊢
  split at hx
  · exact hx
  · rename_i l hD
    have hk := hk l hD
    simp only [keepW, Array.all_eq_true_iff_forall_mem] at hk
    have := hk o (Array.mem_of_getElem? ho)
    cases hdst : o.dst with
    | none => simpa only [put, hdst] using hx
    | some d =>
      simp only [hdst, Bool.not_eq_true', List.contains_eq_mem, decide_eq_false_iff_not] at this
      rw [hdst] at hx
      simp only [put, keepN_put this] at hx
      exact hx

theorem rng_ok {cs : List Frame} {fid0 : Nat} {B : Bt} {E0 : Env} {w0 : World} {Q : Out → HS → Prop} (hC : CtxOk C) (hB : BtOk C cs fid0 B E0 w0 Q) {R R0 : Rn} (hN : Nests C R0) (hR : Sound C cs fid0 B E0 w0 Q R) {fid : Nat} {f : Operand} {params : Array Nat} {assign body : Code} {k : List It} {t : List SV} {fs : List Fr} {h : HS}
    {E : Env} {w : World} {tmps : Array Value} {frs : List Frame} {s : Nat} {ds : List Deferred}
    (hp : rngS C R R0 (ev t f) params assign body fid k t fs h Q) (hd : DenA E w t tmps) (hr : RelH E h w) (hs : StkOk C cs B E w w0.heap.size s fs frs) (hsw : s ≤ w.heap.size) (hds : DsOk E w B s w.heap.size ds) (hkb : kb E.nb k)
    (hi : InvK C cs B E w s w.heap.size fid frs k) (hx : Ext E0 w0 E w) (hb : bot fid fs = fid0) (hfn : ∃ fn, C.P.funcs[fid]? = some fn) (hfs : C.D ≠ none → fs = []) :
    Goal C B (lone (fra B ds (rnf E.rho (.code (.rangeFunc f params assign body) :: k)) fid tmps (.code (.rangeFunc f params assign body) :: items E.rho k)) (frs ++ cs) w) := by
  unfold rngS at hp
  split at hp
  · rename_i g caps hfv
    obtain ⟨hF, hrn, hp⟩ := hp
    have kf := ev_den (a := ⟨tmps, ds⟩) hd f
    rw [hfv] at kf
    generalize hv : (⟨tmps, ds⟩ : Act).eval f = vf at kf
    cases kf
    rename_i vs hvs hvd
    have hro : rnf E.rho (.code (.rangeFunc f params assign body) :: k) = none := by simp [rnf, rnd, hrn]
    rw [hro]
    -- the two blocks
    have hxA : Ext E w E (w.alloc (.deferred (some []))) := ext_of_grow hr.own rfl rfl rfl (by simp) (fun b hb => Below.heap_alloc w _ b hb)
    have hrA : RelH E h (w.alloc (.deferred (some []))) := hr.quiet hxA (fun b hb => Below.heap_alloc w _ b hb)
    have hszA : (w.alloc (.deferred (some []))).heap.size = w.heap.size + 1 := by simp
    have hnb : lenB h.blks = E.nb := hr.nb.symm
    have hrL := hrA.newLoop fid t tmps (hd.ext hxA) params assign body w.heap.size .ready none
    have hxL : Ext E (w.alloc (.deferred (some []))) (E.newB (w.alloc (.deferred (some []))).heap.size) ((w.alloc (.deferred (some []))).alloc (.loop { state := .ready, pending := none, fn := fid, tmps, params, assign, body, defers := w.heap.size })) := ext_alloc hrA.own _ _ rfl
    have hx2 := hxA.trans hxL
    rw [hszA] at hrL hxL hx2
    generalize hw2 : ((w.alloc (.deferred (some []))).alloc (.loop { state := .ready, pending := none, fn := fid, tmps, params, assign, body, defers := w.heap.size })) = w2 at hrL hxL hx2
    have hsz2 : w2.heap.size = w.heap.size + 2 := by rw [← hw2]; simp
    have hrho : (E.newB (w.heap.size + 1)).rho (lenB h.blks) = w.heap.size + 1 := by simp [Env.newB, hnb]
    have hnb2 : lenB h.blks < (E.newB (w.heap.size + 1)).nb := by simp [Env.newB, hnb]
    have hds2 : DsOk (E.newB (w.heap.size + 1)) w2 B s w2.heap.size (mk1 w.heap.size :: ds) := by
      obtain ⟨l, e1, e2, e3⟩ := hds.ext hx2 hx2.size
      obtain ⟨l0, e10, e20, e30⟩ := hds
      have hll : marks l = marks l0 := List.append_cancel_right (e1.symm.trans e10)
      refine ⟨w.heap.size :: l0, by simp [marks, e10], ?_, ?_⟩
      · rw [List.nodup_cons]
        exact ⟨fun hm => by have := (e30 _ hm).2.1; omega, e20⟩
      · intro D hD
        rcases List.mem_cons.1 hD with rfl | hD
        · refine ⟨hsw, by omega, by omega, ?_, ?_⟩
          · simp only [Env.newB]
            rw [if_neg (by omega)]
            cases ho : E.own w.heap.size with
            | none => rfl
            | some t => have := hr.own _ _ ho; omega
          · rw [← hw2, Below.heap_alloc _ _ _ (by simp)]
            exact heap_alloc_new w _
        · obtain ⟨a, b, c, d, e⟩ := e30 D hD
          obtain ⟨k1, k2⟩ := hx2.keep D c d
          exact ⟨a, by omega, by omega, k1, k2.trans e⟩
    have henter := run_enterLoop_outer (P := C.P) (w := w) fid tmps params assign body
    rw [hw2] at henter
    have hstep := stepR_rangeFunc (P := C.P) (b := base B none fid) (a := ⟨tmps, ds⟩) (k := items E.rho k) (cs := frs ++ cs) (w := w) (g := f) (ps := params) (assign := assign) (body := body) henter
      (d := { target := .fn (.func g) vs, args := #[.func (.yield (w.heap.size + 1)) #[] #[]] }) (w₁' := w2) (by
        simp [resolve, hv, Deferred.ofValue, show ∀ x, (⟨tmps, ds⟩ : Act).eval (.const x) = x from fun _ => rfl]) (f := g) (args := #[.func (.yield (w.heap.size + 1)) #[] #[]] ++ vs) (w₂ := w2) (by
        simpa [invoke] using hC.F g hF (#[.func (.yield (w.heap.size + 1)) #[] #[]] ++ vs) w2)
    refine Goal.step hstep ?_
    have hargs : DenA (E.newB (w.heap.size + 1)) w2 (.yield (lenB h.blks) :: caps) (#[.func (.yield (w.heap.size + 1)) #[] #[]] ++ vs) := by
      have h1 : DenA (E.newB (w.heap.size + 1)) w2 [.yield (lenB h.blks)] #[.func (.yield (w.heap.size + 1)) #[] #[]] := by
        refine ⟨rfl, fun i x u hx hu => ?_⟩
        cases i with
        | zero =>
          simp at hx hu; subst hx hu
          have hy := Den.yield (w := w2) hnb2
          rw [hrho] at hy
          exact hy
        | succ i => simp at hx
      exact h1.cat (DenA.ext hx2 ⟨hvs, hvd⟩)
    have hkb2 : kb (E.newB (w.heap.size + 1)).nb k := kb_le hx2.nb hkb
    have hit : items (E.newB (w.heap.size + 1)).rho k = items E.rho k := items_eq (fun nm hn => hx2.rho nm hn) hkb
    have hrn2 : rnf (E.newB (w.heap.size + 1)).rho (.inRng (lenB h.blks) :: k) = none := by simp [rnf, rnd, hrn]
    have hframe : (base B none fid).atR { (⟨tmps, ds⟩ : Act) with defers := [{ target := .collected w.heap.size, args := #[] }] ++ (⟨tmps, ds⟩ : Act).defers } (.inRangeFunc (w.heap.size + 1) :: items E.rho k) =
        fra B (mk1 w.heap.size :: ds) (rnf (E.newB (w.heap.size + 1)).rho (.inRng (lenB h.blks) :: k)) fid tmps (items (E.newB (w.heap.size + 1)).rho (.inRng (lenB h.blks) :: k)) := by
      rw [hrn2]
      simp only [items, hrho, hit]
      rfl
    rw [hframe]
    unfold rngGo at hp
    split at hp
    · rename_i fn hFN
      split at hp
      · rename_i c hbody
        have hP := hC.FN g fn hFN
        split at hp
        · rename_i hD
          rw [enter_fra (hB.std hD).2.1 hP hbody]
          have := hR _ _ _ _ _ hp (fun h => absurd hD h) (E.newB (w.heap.size + 1)) w2 _ (fra B (mk1 w.heap.size :: ds) (rnf (E.newB (w.heap.size + 1)).rho (.inRng (lenB h.blks) :: k)) fid tmps (items (E.newB (w.heap.size + 1)).rho (.inRng (lenB h.blks) :: k)) :: frs) w2.heap.size [] (fill_den hargs _) hrL (by
            simp only [StkOk]
            exact ⟨s, mk1 w.heap.size :: ds, tmps, by omega, Nat.le_refl _, rfl, hd.ext hx2, by simp only [kb]; exact ⟨hnb2, hkb2⟩, hds2, hfn, by simp only [InvK]; exact hi.ext hx2 hx2.size, hs.ext hx2⟩) (Nat.le_refl _) (no_marks (hB.std hD).1 _ _) (by simp only [kb]) (by simp only [InvK]) (hx.trans hx2) hb ⟨fn, hP⟩
          exact this
        · rename_i l hD
          have hcs := hN g fn c _ _ _ hFN hbody hp
          refine by_contract hB hcs hrL hargs (fun v h' E' w' val hK hr' hx' hden => ?_) (fun v h' E' w' val hK hr' hx' hden => ?_)
          · simp only [items]
            rw [fra_at, finish_atR_inRangeFunc, ← fra_at]
            simp only [outK, put] at hK
            have := hR _ _ _ _ _ hK hfs E' w' tmps frs s (mk1 w.heap.size :: ds) ((hd.ext hx2).ext hx') hr' ((hs.ext hx2).ext hx') (by have := hx'.size; omega) (hds2.ext hx' hx'.size) (by simp only [kb]; exact ⟨Nat.lt_of_lt_of_le hnb2 hx'.nb, kb_le hx'.nb hkb2⟩) (by simp only [InvK]; exact (hi.ext hx2 hx2.size).ext hx' hx'.size) ((hx.trans hx2).trans hx') hb hfn
            simp only [items] at this
            rw [items_eq (fun nm hn => hx'.rho nm hn) hkb2, hx'.rho _ hnb2, show rnf E'.rho (.endRng (lenB h.blks) :: k) = none from by simp [rnf, rnd, hrn]] at this
            rw [hrn2]
            exact this
          · exact panQ_goal hB hK ((hd.ext hx2).ext hx') hr' ((hx.trans hx2).trans hx') hden ((hs.ext hx2).ext hx') (hds2.ext hx' hx'.size) hb hfn hfs
      · exact hp.elim
    · exact hp.elim
  · exact hp.elim

theorem run_sound : ∀ (n : Nat) (C : Ctx) (hC : CtxOk C) (cs : List Frame) (fid0 : Nat) (B : Bt) (E0 : Env) (w0 : World) (Q : Out → HS → Prop) (hB : BtOk C cs fid0 B E0 w0 Q), Sound C cs fid0 B E0 w0 Q (run C n)
  | 0, C, hC, cs, fid0, B, E0, w0, Q, hB => fun fid k t fs h hp => by simp only [run] at hp
  | n + 1, C, hC, cs, fid0, B, E0, w0, Q, hB => by
    have ih : Sound C cs fid0 B E0 w0 Q (run C n) := run_sound n C hC cs fid0 B E0 w0 Q hB
    have hN : Nests C (run C.off n) := nests_of hC (fun cs fid0 B E0 w0 Q h => run_sound n C.off hC.off cs fid0 B E0 w0 Q h)
    intro fid k t fs h hp hfs E w tmps frs s ds hd hr hs hsw hds hkb hi hx hb hfn
    have hle := stk_le hs
    have leave : ∀ (todo : List Item) (ro : Option Nat) (fr : Frame), leaveS C (run C n) C.D fid t fs h Q (C.FN fid) → fr = { fra B ds ro fid tmps todo with mode := .returning } → Goal C B (lone fr (frs ++ cs) w) := by
      rintro todo ro fr hl rfl
      obtain ⟨ml, e1, e2⟩ := hds
      obtain ⟨w1, g1, g2⟩ := take_steps (P := C.P) (cs := frs ++ cs) (D0 := B.ds) ml { fra B ds ro fid tmps todo with mode := .returning } w (by intro e; cases e) e1 e2
      refine Goal.of_steps g1 ?_
      unfold leaveS at hl
      split at hl
      · rename_i hD
        split at hl
        · rename_i fn hFN
          split at hl
          · rename_i p vs hres
            obtain ⟨v, h1, h2⟩ := results_ok (P := C.P) hC.T (g2.denA hd) (g2.rel hr) fn hres hl.1
            exact popS_ok hB hD ih hl.2 h2 (g2.rel hr) (g2.stk hs) (g2.ext hx hle) hb ⟨rfl, (hB.std hD).1, (hB.std hD).2.1, fn, hC.FN fid fn hFN, h1⟩ rfl
          · exact hl.elim
        · exact hl.elim
      · rename_i l hD
        have h0 := hfs (by rw [hD]; simp)
        subst h0
        cases frs with
        | nil => cases hb; exact hB.fin l hD none t h E w1 tmps todo ro _ hl (g2.denA hd) (g2.rel hr) (g2.ext hx hle) rfl
        | cons _ _ => simp only [StkOk] at hs
    have go : ∀ k' t' h' (todo : List Item), run C n fid k' t' fs h' Q → DenA E w t' tmps → RelH E h' w → kb E.nb k' → rnd k' = rnd k → InvK C cs B E w s w.heap.size fid frs k' → Goal C B (lone (fra B ds (rnf E.rho k) fid tmps (items E.rho k')) (frs ++ cs) w) := by
      intro k' t' h' todo hp' hd' hr' hkb' hrn hi'
      have := ih _ _ _ _ _ hp' hfs E w tmps frs s ds hd' hr' hs hsw hds hkb' hi' hx hb hfn
      rw [show rnf E.rho k' = rnf E.rho k from by unfold rnf; rw [hrn]] at this
      exact this
    cases k with
    | nil =>
      simp only [run] at hp
      exact Goal.step (stepR_end (b := base B (rnf E.rho []) fid) (a := ⟨tmps, ds⟩) (cs := frs ++ cs) rfl) (leave [] _ _ hp rfl)
    | cons x k =>
      cases x with
      | blk id =>
        simp only [run] at hp
        simp only [kb] at hkb
        simp only [InvK] at hi
        exact Goal.step (stepR_inBlock (b := base B (rnf E.rho (.blk id :: k)) fid) (a := ⟨tmps, ds⟩) (cs := frs ++ cs)) (go k t h [] hp hd hr hkb rfl hi)
      | inv ι st μ i body =>
        simp only [run] at hp
        simp only [InvK] at hi
        obtain ⟨j, hμ, hsub⟩ := hp
        obtain ⟨⟨Ee, we, hwe, hxe, hkbe, hlen, hgo⟩, hi'⟩ := hi
        obtain ⟨l1, l2⟩ := hlen j
        obtain ⟨g1, g2⟩ := hsub.len
        obtain ⟨E', hrho, hxE, d1, r1⟩ := hsub.go hd hr _ _ rfl rfl (by rw [hr.nb]; exact g1) (by rw [hr.nv]; exact g2)
        have hxe' := hxe.trans hxE
        refine Goal.step (stepR_inLoop (b := base B (rnf E.rho (.inv ι st μ i body :: k)) fid) (a := ⟨tmps, ds⟩) (cs := frs ++ cs)) ?_
        have hg := hgo j hμ { E' with nb := lenB (st j).2.blks, nv := lenV (st j).2.vecs } w tmps ds ⟨hxe'.os, hxe'.tape, hxe'.output, hxe'.size, l1, l2, hxe'.rho, hxe'.val, hxe'.keep, hxe'.oth⟩ d1 r1 (hds.ext hxE (Nat.le_refl _))
        simp only [hrho] at hg
        exact hg
      | aga body =>
        simp only [run] at hp
        simp only [kb] at hkb
        simp only [InvK] at hi
        exact Goal.step (stepR_inLoop (b := base B (rnf E.rho (.aga body :: k)) fid) (a := ⟨tmps, ds⟩) (cs := frs ++ cs)) (go (.code body :: .aga body :: k) t h [] hp hd hr (by simp only [kb]; exact hkb) rfl (by simp only [InvK]; exact hi))
      | scp body =>
        simp only [run] at hp
        simp only [kb] at hkb
        simp only [InvK] at hi
        exact Goal.step (stepR_inScope (b := base B (rnf E.rho (.scp body :: k)) fid) (a := ⟨tmps, ds⟩) (cs := frs ++ cs)) (go k t h [] hp hd hr hkb rfl hi)
      | reg ops idx =>
        cases idx with
        | nil =>
          simp only [run] at hp
          simp only [kb] at hkb
          simp only [InvK] at hi
          exact Goal.step (stepR_region_end (b := base B (rnf E.rho (.reg ops [] :: k)) fid) (a := ⟨tmps, ds⟩) (cs := frs ++ cs)) (go k t h [] hp hd hr hkb rfl hi)
        | cons i idx =>
          simp only [run] at hp
          simp only [kb] at hkb
          simp only [InvK] at hi
          exact opS_ok hC hB hN ih hp hd hr hs hsw hds hkb hi hx hb hfn hfs
      | inRng nm => simp only [run] at hp
      | endRng nm =>
        simp only [run] at hp
        simp only [kb] at hkb
        simp only [InvK] at hi
        have main : ∀ st pend rf rt params assign body, getB h.blks nm = .loop st pend rf rt params assign body → st ≠ .busy → run C n fid (match pend with | none => k | some c => .code c :: k) t fs { h with blks := setB h.blks nm .dead } Q →
            Goal C B (lone (fra B ds (rnf E.rho (.endRng nm :: k)) fid tmps (items E.rho (.endRng nm :: k))) (frs ++ cs) w) := by
          intro st pend rf rt params assign body hblk hst hp'
          obtain ⟨r, h1, h2, h3, h4⟩ := loop_moves hr hblk
          subst h2 h3
          obtain ⟨hr', hx'⟩ := h4 .exhausted r.pending
          have hrun := run_endLoop (P := C.P) h1 hst
          refine Goal.step (stepR_endRangeFunc (b := base B (rnf E.rho (.endRng nm :: k)) fid) (a := ⟨tmps, ds⟩) (k := items E.rho k) (cs := frs ++ cs) hrun) ?_
          have hr2 := hr'.drop nm
          simp only [setB_setB] at hr2
          have hg : run C n fid (match r.pending with | none => k | some c => .code c :: k) t fs { h with blks := setB h.blks nm .dead } Q → Goal C B (lone (fra B ds (rnf E.rho k) fid tmps (items E.rho (match r.pending with | none => k | some c => .code c :: k))) (frs ++ cs) (w.putObj (E.rho nm) (.loop { r with state := .exhausted, pending := r.pending }))) := fun hp' => by
            have := ih _ _ _ _ _ hp' hfs E _ tmps frs s ds (hd.ext hx') hr2 (hs.ext hx') (Nat.le_trans hsw hx'.size) (hds.ext hx' hx'.size) (by split <;> first | exact hkb.2 | (simp only [kb]; exact hkb.2)) (by split <;> first | exact hi.ext hx' hx'.size | (simp only [InvK]; exact hi.ext hx' hx'.size)) (hx.trans hx') hb hfn
            rw [show rnf E.rho (match r.pending with | none => k | some c => .code c :: k) = rnf E.rho k from by split <;> rfl] at this
            exact this
          have e : (r.pending.map Item.code).toList ++ items E.rho k = items E.rho (match r.pending with | none => k | some c => .code c :: k) := by
            cases r.pending <;> simp [items]
          have := hg hp'
          rw [← e] at this
          exact this
        unfold endRngS at hp
        split at hp
        · rename_i hblk; exact main _ _ _ _ _ _ _ hblk (by intro e; cases e) hp
        · rename_i hblk; exact main _ _ _ _ _ _ _ hblk (by intro e; cases e) hp
        · rename_i hblk; exact main _ _ _ _ _ _ _ hblk (by intro e; cases e) hp
        · exact hp.elim
      | beginR =>
        simp only [run] at hp
        simp only [kb] at hkb
        simp only [InvK] at hi
        unfold beginRS at hp
        split at hp
        · rename_i nm hrn
          split at hp
          · rename_i pend rf rt params assign body hblk
            obtain ⟨r, h1, h2, h3, h4⟩ := loop_moves hr hblk
            subst h3
            obtain ⟨hr', hx'⟩ := h4 .busy r.pending
            have hro : (base B (rnf E.rho (.beginR :: k)) fid).roundOf = some (E.rho nm) := by simp [base, rnf, rnd, hrn]
            refine Goal.step (stepR_beginRound (b := base B (rnf E.rho (.beginR :: k)) fid) (a := ⟨tmps, ds⟩) (k := items E.rho k) (cs := frs ++ cs) hro (run_beginRound h1 h2)) ?_
            have := ih _ _ _ _ _ hp hfs E _ tmps frs s ds (hd.ext hx') hr' (hs.ext hx') (Nat.le_trans hsw hx'.size) (hds.ext hx' hx'.size) hkb (hi.ext hx' hx'.size) (hx.trans hx') hb hfn
            exact this
          · exact hp.elim
        · exact hp.elim
      | endR nm =>
        simp only [run] at hp
        simp only [kb] at hkb
        obtain ⟨hnm, rfl⟩ := hkb
        cases hD : C.D with
        | some l =>
          have h0 := hfs (by rw [hD]; simp)
          subst h0
          unfold endRS at hp
          split at hp
          · simp only [popR, hD] at hp
          · exact hp.elim
        | none =>
          refine endRS_ok hB hD ih hp hr hs hx hb (fid := fid) ?_
          intro v w' c frs' hrun hfrs; rw [hfrs]
          have hds0 : (base B (rnf E.rho [.endR nm]) fid).roundOf = some (E.rho nm) := by simp [base, rnf, rnd]
          exact stepR_round_end (P := C.P) (b := base B (rnf E.rho [.endR nm]) fid) (a := ⟨tmps, ds⟩) (cs := frs') (c := c) hds0 (hB.std hD).2.1 hrun
      | code c =>
        simp only [InvK] at hi
        have hkb0 := hkb
        simp only [kb] at hkb
        cases c with
        | skip =>
          simp only [run] at hp
          exact Goal.step (stepR_skip (b := base B (rnf E.rho (.code .skip :: k)) fid) (a := ⟨tmps, ds⟩) (cs := frs ++ cs)) (go k t h [] hp hd hr hkb rfl hi)
        | label l =>
          simp only [run] at hp
          exact Goal.step (stepR_label (b := base B (rnf E.rho (.code (.label l) :: k)) fid) (a := ⟨tmps, ds⟩) (cs := frs ++ cs)) (go k t h [] hp hd hr hkb rfl hi)
        | seq a b =>
          simp only [run] at hp
          exact Goal.step (stepR_seq (b := base B (rnf E.rho (.code (.seq a b) :: k)) fid) (a := ⟨tmps, ds⟩) (cs := frs ++ cs)) (go (.code a :: .code b :: k) t h [] hp hd hr (by simp only [kb]; exact hkb) rfl (by simp only [InvK]; exact hi))
        | block id c =>
          simp only [run] at hp
          exact Goal.step (stepR_block (b := base B (rnf E.rho (.code (.block id c) :: k)) fid) (a := ⟨tmps, ds⟩) (cs := frs ++ cs)) (go (.code c :: .blk id :: k) t h [] hp hd hr (by simp only [kb]; exact hkb) rfl (by simp only [InvK]; exact hi))
        | cond c a b =>
          simp only [run, condS] at hp
          have hc := ev_den (a := ⟨tmps, ds⟩) hd c
          split at hp
          · rename_i q hq
            rw [hq] at hc
            generalize hv : (⟨tmps, ds⟩ : Act).eval c = vc at hc
            cases hc
            refine Goal.step (stepR_cond (b := base B (rnf E.rho (.code (.cond c a b) :: k)) fid) (a := ⟨tmps, ds⟩) (cs := frs ++ cs) (t := q) hv) ?_
            cases q with
            | true => exact go (.code a :: k) t h [] (hp.1 rfl) hd hr (by simp only [kb]; exact hkb) rfl (by simp only [InvK]; exact hi)
            | false => exact go (.code b :: k) t h [] (hp.2 rfl) hd hr (by simp only [kb]; exact hkb) rfl (by simp only [InvK]; exact hi)
          · exact hp.elim
        | exit id =>
          simp only [run, exitS] at hp
          split at hp
          · rename_i k' hk
            obtain ⟨a1, a2, a3⟩ := exit_keeps id k k' hkb hk hi
            exact Goal.step (stepR_exit (b := base B (rnf E.rho (.code (.exit id) :: k)) fid) (a := ⟨tmps, ds⟩) (cs := frs ++ cs) (items_exit id k k' hkb hk)) (go k' t h [] hp hd hr a2 (by simp only [rnd]; exact a3) a1)
          · rename_i hk
            unfold retS at hp
            split at hp
            · exact hp.elim
            · rename_i nm hrn
              cases hD : C.D with
              | some l =>
                have h0 := hfs (by rw [hD]; simp)
                subst h0
                unfold endRS at hp
                split at hp
                · simp only [popR, hD] at hp
                · exact hp.elim
              | none =>
                refine endRS_ok hB hD ih hp hr hs hx hb (fid := fid) ?_
                intro v w' c frs' hrun hfrs; rw [hfrs]
                have hds0 : (base B (rnf E.rho (.code (.exit id) :: k)) fid).roundOf = some (E.rho nm) := by simp [base, rnf, rnd, hrn]
                exact stepR_round_exit (P := C.P) (b := base B (rnf E.rho (.code (.exit id) :: k)) fid) (a := ⟨tmps, ds⟩) (k := items E.rho k) (cs := frs') (c := c) hds0 (hB.std hD).2.1 (items_noexit id k hkb hk) hrun
        | ret =>
          simp only [run] at hp
          unfold retS at hp
          split at hp
          · rename_i hrn
            exact Goal.step (stepR_ret (b := base B (rnf E.rho (.code .ret :: k)) fid) (a := ⟨tmps, ds⟩) (cs := frs ++ cs) (by simp [base, rnf, rnd, hrn])) (leave _ _ _ hp rfl)
          · rename_i nm hrn
            cases hD : C.D with
            | some l =>
              have h0 := hfs (by rw [hD]; simp)
              subst h0
              unfold endRS at hp
              split at hp
              · simp only [popR, hD] at hp
              · exact hp.elim
            | none =>
              refine endRS_ok hB hD ih hp hr hs hx hb (fid := fid) ?_
              intro v w' c frs' hrun hfrs; rw [hfrs]
              have hds0 : (base B (rnf E.rho (.code .ret :: k)) fid).roundOf = some (E.rho nm) := by simp [base, rnf, rnd, hrn]
              exact stepR_round_ret (P := C.P) (b := base B (rnf E.rho (.code .ret :: k)) fid) (a := ⟨tmps, ds⟩) (k := items E.rho k) (cs := frs') (c := c) hds0 (hB.std hD).2.1 hrun
        | rangeFunc f params assign body =>
          simp only [run] at hp
          exact rng_ok hC hB hN ih hp hd hr hs hsw hds hkb hi hx hb hfn hfs
        | region id ops draw =>
          cases draw with
          | true =>
            simp only [run, drawS] at hp
            split at hp
            · rename_i p hpl
              obtain ⟨⟨hok, hkeep⟩, hp⟩ := hp
              simp only [planOk, Bool.and_eq_true] at hok
              have hX : (∀ (i : Nat) (o : Oper), ops[i]? = some o → ∀ t v u h, panQ C.D Q (put t o.dst v) u h → panQ C.D Q t u h) ∨ callFree ops = true := by
                cases hcf : callFree ops with
                | true => exact .inr rfl
                | false =>
                  refine .inl fun i o ho => keep_panQ (fun l hD => ?_) ho
                  simpa only [keepOk, hD, hcf, Bool.or_false] using hkeep
              have hany := (plan_any hX hC (ssaOk_spec hok.1.1) hN p true _ _ _ t h hok.2 ⟨by simp, fun j o ho hl => by
                rw [Array.getD_eq_getD_getElem?, Array.getElem?_replicate] at hl
                split at hl <;> simp at hl⟩ (fun k hk => by cases hk) (fun k hk => by cases hk) hp).1 rfl
              refine Goal.step (stepR_region_draw (b := base B (rnf E.rho (.code (.region id ops true) :: k)) fid) (a := ⟨tmps, ds⟩) (cs := frs ++ cs)) ?_
              have hord := any_ord ops.size (w.tape w.drawn (.order fid id)) _ _ t h hany
              have hx1 : Ext E w E { w with drawn := w.drawn + 1 } := ⟨rfl, rfl, rfl, Nat.le_refl _, Nat.le_refl _, Nat.le_refl _, fun _ _ => rfl, fun _ _ _ _ h => h, fun _ _ h => ⟨h, rfl⟩, fun _ h => ⟨h, rfl⟩⟩
              have hgo := ord_goal hC (hB := ⟨hB.std, hB.fin, hB.stop, hB.rnd⟩) hN ih (Region.linearise.go .any ops ops.size (w.tape w.drawn (.order fid id)) (Array.replicate ops.size false) []) (fid := fid) (ops := ops) (k := k) (fs := fs) fid _ t fs h ⟨⟨rfl, rfl, rfl⟩, hord⟩ hfs
                E { w with drawn := w.drawn + 1 } tmps frs s ds (hd.ext hx1) (hr.quiet hx1 (fun _ _ => rfl)) (by rw [StkOk_bare]; exact hs.ext hx1) hsw (hds.ext hx1 (Nat.le_refl _)) (by simp only [kb]; exact hkb) (by simpa only [InvK, InvK_bare] using hi.ext hx1 (Nat.le_refl _)) (hx.trans hx1) hb hfn
              simp only [Region.schedule, hC.mix, Bool.true_or, if_true]
              exact hgo
            · exact hp.elim
          | false =>
            simp only [run] at hp
            refine Goal.step (stepR_region (b := base B (rnf E.rho (.code (.region id ops false) :: k)) fid) (a := ⟨tmps, ds⟩) (cs := frs ++ cs)) ?_
            rw [upto_range] at hp
            exact go (.reg ops (List.range ops.size) :: k) t h [] hp hd hr (by simp only [kb]; exact hkb) rfl (by simp only [InvK]; exact hi)
        | loop body =>
          simp only [run, LoopOb] at hp
          rcases hp with ⟨ι, st, μ, mk, hmk, hlen, ⟨i0, h0⟩, hall⟩ | hp
          rotate_left
          · exact Goal.step (stepR_loop (b := base B (rnf E.rho (.code (.loop body) :: k)) fid) (a := ⟨tmps, ds⟩) (cs := frs ++ cs)) (go (.code body :: .aga body :: k) t h [] hp hd hr (by simp only [kb]; exact hkb) rfl (by simp only [InvK]; exact hi))
          refine Goal.step (stepR_loop (b := base B (rnf E.rho (.code (.loop body) :: k)) fid) (a := ⟨tmps, ds⟩) (cs := frs ++ cs)) ?_
          obtain ⟨E1, hrho1, hx1, hr1⟩ := mkH_ok mk hmk hr
          have hlen' : ∀ j, E1.nb ≤ lenB (st j).2.blks ∧ E1.nv ≤ lenV (st j).2.vecs := fun j => ⟨by rw [hr1.nb, (mkH_len mk h).1]; exact (hlen j).1, by rw [hr1.nv, (mkH_len mk h).2]; exact (hlen j).2⟩
          -- every round, by its measure
          have key : ∀ m i, μ i = m → ∀ E' w' tmps' ds', Ext E1 w E' w' → DenA E' w' (st i).1 tmps' → RelH E' (st i).2 w' → DsOk E' w' B s w'.heap.size ds' → Goal C B (lone (fra B ds' (rnf E'.rho k) fid tmps' (.code body :: .inLoop body :: items E'.rho k)) (frs ++ cs) w') := by
            intro m
            induction m using Nat.strongRecOn with
            | _ m ihm =>
              intro i hm E' w' tmps' ds' hx' hd' hr' hds'
              have hx2 := hx1.trans hx'
              exact ih _ _ _ _ _ (hall i) hfs E' w' tmps' frs s ds' hd' hr' (hs.ext hx2) (Nat.le_trans hsw hx2.size) hds' (by simp only [kb]; exact kb_le hx2.nb hkb) (by
                simp only [InvK]
                exact ⟨⟨E1, w, hx2.size, hx', kb_le hx1.nb hkb, hlen', fun j hj E2 w2 t2 ds2 hx2 hd2 hr2 hds2 => ihm (μ j) (hm ▸ hj) j rfl E2 w2 t2 ds2 hx2 hd2 hr2 hds2⟩, hi.ext hx2 hx2.size⟩) (hx.trans hx2) hb hfn
          obtain ⟨l1, l2⟩ := hlen' i0
          obtain ⟨g1, g2⟩ := h0.len
          obtain ⟨E2, hrho2, hx2, d1, r1⟩ := h0.go (hd.ext hx1) hr1 _ _ rfl rfl (by rw [hr1.nb]; exact g1) (by rw [hr1.nv]; exact g2)
          have hg := key _ i0 rfl { E2 with nb := lenB (st i0).2.blks, nv := lenV (st i0).2.vecs } w tmps ds ⟨hx2.os, hx2.tape, hx2.output, hx2.size, l1, l2, hx2.rho, hx2.val, hx2.keep, hx2.oth⟩ d1 r1 (hds.ext (hx1.trans hx2) (Nat.le_refl _))
          simp only [hrho2, hrho1] at hg
          exact hg
        | scope body =>
          simp only [run] at hp
          exact Goal.step (stepR_scope (b := base B (rnf E.rho (.code (.scope body) :: k)) fid) (a := ⟨tmps, ds⟩) (cs := frs ++ cs)) (go (.code body :: .scp body :: k) t h [] hp hd hr (by simp only [kb]; exact hkb) rfl (by simp only [InvK]; exact hi))
        | _ => simp only [run] at hp
end
end Go.Eng
end

/- Tables checked by reckoning; contracts out of runs. -/
section
namespace Go.Eng
open Go.RowKit
set_option linter.unusedVariables false

def svSame : SV → SV → Bool
  | .int k n, .int k' n' => k == k' && n == n'
  | .bool a, .bool b => a == b
  | .str a, .str b => a.data == b.data
  | .nilp, .nilp => true
  | .nilf, .nilf => true
  | .nili, .nili => true
  | .any, .any => true
  | _, _ => false
theorem svSame_eq {a b : SV} (h : svSame a b = true) : a = b := by
  unfold svSame at h
  split at h <;> simp_all
  rename_i a b
  cases a; cases b; simp_all
def zcOk : ZC → Value → Bool
  | .c x, u => u.oneCell' && svSame x (svS u)
  | .sl _ sz, .slice none 0 0 => decide (0 < sz)
  | _, _ => false
def zcsOk : List ZC → List Value → Bool
  | [], [] => true
  | z :: zs, u :: us => zcOk z u && zcsOk zs us
  | _, _ => false
theorem zcsOk_get : ∀ {zs : List ZC} {us : List Value}, zcsOk zs us = true → zs.length = us.length ∧ ∀ (k : Nat) (u : Value), us[k]? = some u → u.oneCell' = true ∧ match zs[k]? with | some (.c x) => x = svS u | some (.sl _ sz) => u = .slice none 0 0 ∧ 0 < sz | none => False
  | [], [], _ => ⟨rfl, fun k u h => by simp at h⟩
  | z :: zs, u :: us, h => by
    simp only [zcsOk, Bool.and_eq_true] at h
    obtain ⟨h1, h2⟩ := zcsOk_get h.2
    refine ⟨by simp [h1], fun k v hv => ?_⟩
    cases k with
    | zero =>
      simp at hv
      subst hv
      have h0 := h.1
      unfold zcOk at h0
      split at h0
      · simp only [Bool.and_eq_true] at h0
        exact ⟨h0.1, svSame_eq h0.2⟩
      · exact ⟨rfl, rfl, by simpa using h0⟩
      · cases h0
    | succ k => simpa using h2 k v (by simpa using hv)
  | [], _ :: _, h => by simp [zcsOk] at h
  | _ :: _, [], h => by simp [zcsOk] at h

def sameK : Option (List LK) → List LK → Bool
  | some [], [] => true
  | some (.i :: l), .i :: k => sameK (some l) k
  | some (.b :: l), .b :: k => sameK (some l) k
  | _, _ => false
theorem sameK_eq : ∀ {l : Option (List LK)} {k : List LK}, sameK l k = true → l = some k
  | some [], [], _ => rfl
  | some (.i :: l), .i :: k, h => by have := sameK_eq (l := some l) (k := k) (by simpa [sameK] using h); simp at this; rw [this]
  | some (.b :: l), .b :: k, h => by have := sameK_eq (l := some l) (k := k) (by simpa [sameK] using h); simp at this; rw [this]
  | none, _, h => by simp [sameK] at h
  | some [], _ :: _, h => by simp [sameK] at h
  | some (_ :: _), [], h => by simp [sameK] at h
  | some (.i :: _), .b :: _, h => by simp [sameK] at h
  | some (.b :: _), .i :: _, h => by simp [sameK] at h

def chk (P : Program) (t : Nat) (ti : TI) : Bool := (ti.mt.all fun x => mtChk P t x.1 x.2) &&
  match P.info? t, P.underlying t with
  | some i, some d => match i.zero with
    | some z => (match ti.eq with | none => true | some ks => sameK (flatK P 8 t) ks && !P.eqGuardType P.depth t) && aggV z == ti.agg && (match d with | .struct fs => fs.toList.map (fun f => aggD P f.type) == ti.fag.map some | _ => true) && (ti.agg || ti.size == 1) && i.size == ti.size && i.bytes == ti.bytes && z.cells.size == ti.size && zcsOk ti.zero z.cells.toList &&
        ti.ifc == (match d with | .interface _ => true | _ => false) && ti.agg == (match d with | .struct _ | .array _ _ => true | _ => false) &&
        (match ti.kind, d with
          | .slice e, .slice e' => e == e'
          | .array n e, .array n' e' => n == n' && e == e'
          | .struct offs, .struct fs => (fs.toList.mapM fun f => (P.info? f.type).map fun i => (f.offset, i.size)) == some offs && offs.all (fun x => x.2 != 0)
          | .int k, .int k' => k == k'
          | .bool, .bool => true
          | .func, .func _ _ _ => true
          | .map k v, .map k' v' => k == k' && v == v'
          | .str, .string => true
          | .other, _ => true
          | _, _ => false)
    | none => false
  | _, _ => false
theorem chk_ok {P : Program} {t : Nat} {ti : TI} (h : chk P t ti = true) : TIOk P t ti := by
  unfold chk at h
  rw [Bool.and_eq_true] at h
  obtain ⟨hmt, h⟩ := h
  rw [List.all_eq_true] at hmt
  split at h
  · rename_i i d hi hd
    split at h
    · rename_i z hz
      simp only [Bool.and_eq_true, Bool.or_eq_true, beq_iff_eq] at h
      obtain ⟨⟨⟨⟨⟨⟨⟨⟨⟨⟨h0, hz9⟩, hf9⟩, h1⟩, h2⟩, h3⟩, h4⟩, h5⟩, h6⟩, h7⟩, h8⟩ := h
      obtain ⟨z1, z2⟩ := zcsOk_get h5
      refine ⟨fun ha => by simpa [ha] using h1, ⟨i, z, hi, h2, h3, hz, h4, by rw [z1]; simp [h4], fun k u hu => z2 k u (by simpa using hu)⟩, ⟨d, hd, h6, h7, ?_⟩, fun i' z' hi' hz' => by rw [hi] at hi'; cases hi'; rw [hz] at hz'; cases hz'; exact hz9, fun fs hfs => by rw [hd] at hfs; cases hfs; simpa using hf9, fun ks hks => by rw [hks] at h0; simp only [Bool.and_eq_true, Bool.not_eq_true'] at h0; exact ⟨sameK_eq h0.1, h0.2⟩, fun x hx => mtChk_ok (hmt x hx)⟩
      generalize ti.kind = kk at h8 ⊢
      cases kk <;> cases d <;> simp at h8 <;> first
        | trivial
        | (simp [h8]; done)
        | (exact ⟨_, rfl, h8.1, fun x hx => by have := h8.2 x.1 x.2 hx; exact this⟩)
    · cases h
  · cases h

def lookT : List (Nat × TI) → Nat → Option TI
  | [], _ => none
  | (k, ti) :: l, t => if t = k then some ti else lookT l t
theorem lookT_ok {P : Program} : ∀ (l : List (Nat × TI)), (l.all fun x => chk P x.1 x.2) = true → TOk P (lookT l)
  | [], _, t, ti, h => by simp [lookT] at h
  | (k, x) :: l, ha, t, ti, h => by
    simp only [List.all_cons, Bool.and_eq_true] at ha
    simp only [lookT] at h
    split at h
    · rename_i e; subst e; cases h; exact chk_ok ha.1
    · exact lookT_ok l ha.2 t ti h

/-- A function with a body of its own. -/
def entB (P : Program) (g : Nat) : Bool := match P.funcs[g]? with
  | some fn => !(fn.name == "runtime.NumGoroutine") && fn.body.isSome
  | none => false
theorem entB_ok (P : Program) : FOk P (entB P) := by
  intro g h args w
  unfold entB at h
  split at h
  · rename_i fn hf
    simp only [Bool.and_eq_true, Bool.not_eq_true'] at h
    cases hb : fn.body with
    | none => rw [hb] at h; simp at h
    | some c => exact Go.Proofs.enters_of hf h.1 hb args w
  · cases h

/-- The plain context: every call inlined but those that hof names. -/
def ctx0 (P : Program) (l : List (Nat × TI)) (hof : Nat → Bool) (G : Nat → Option Spec) (plan : Nat → Nat → Option Plan) (D : Option (List Nat)) : Ctx :=
  { P, T := lookT l, F := entB P, FN := fun g => P.funcs[g]?, inl := fun g => !hof g, G, plan, D }
theorem ctx0_ok {P : Program} {l : List (Nat × TI)} (h : (l.all fun x => chk P x.1 x.2) = true) (hof : Nat → Bool) (G : Nat → Option Spec) (plan : Nat → Nat → Option Plan) (D : Option (List Nat))
    (hG : ∀ g f, G g = some f → ∀ args h p v h1, f args h = some (p, v, h1) → p → CallsS P g args h fun o h' => o = .ret v ∧ h' = h1) (hm : P.follows .mixedOrders = true) : CtxOk (ctx0 P l hof G plan D) :=
  ⟨lookT_ok l h, entB_ok P, fun _ _ h => h, hG, hm⟩

/-- The ghost of a callee that is handed no names: whatever the caller owns is foreign. -/
def Env.sub (E : Env) : Env := { nb := 0, rho := E.rho, nv := 0, val := E.val, own := fun b => match E.own b with | some _ => some .other | none => none }
theorem sub_rel {E : Env} {h : HS} {w : World} (hr : RelH E h w) : RelH E.sub ⟨[], []⟩ w :=
  ⟨rfl, rfl, fun nm ty c h => by simp [getB] at h, fun id a b c d e h => by simp [getV] at h, fun b t hb => by
    simp only [Env.sub] at hb
    cases ho : E.own b with
    | none => simp [ho] at hb
    | some t' => exact hr.own b t' ho, fun nm st pend fid t params assign body hb => by simp [getB] at hb, fun nm m hb => by simp [getB] at hb⟩

theorem frame_calls {P : Program} {g : Nat} {args : List SV} {K : Out → HS → Prop} (h : CallsS P g args ⟨[], []⟩ K) (hb : BdL 0 0 args) (K' : Out → Prop)
    (hK : ∀ o h', K o h' → K' o ∧ match o with | .ret v => Bd 0 0 v | .pan v => Bd 0 0 v | _ => True) : ∀ h0, CallsS P g args h0 fun o h' => K' o ∧ h' = h0 := by
  intro h0 E w vals hr hd
  have hd' : DenA E.sub w args vals := ⟨hd.1, fun i x u hx hu => (hd.2 i x u hx hu).turn (BdL_get hb i x hx) (fun nm hn => by simp [Env.sub] at hn) (fun id ver y hi => by simp [Env.sub] at hi)
    (fun b _ ho => by simp [Env.sub, ho])⟩
  refine (h E.sub w vals (sub_rel hr) hd').mono ?_
  rintro e w' ⟨o, h', E', hk, hr', hx, hout⟩
  obtain ⟨k1, k2⟩ := hK o h' hk
  have hkeep : ∀ b, b < w.heap.size → w'.heap[b]? = w.heap[b]? := fun b hb => by
    cases ho : E.own b with
    | none => exact (hx.keep b hb (by simp [Env.sub, ho])).2
    | some t => exact (hx.oth b (by simp [Env.sub, ho])).2
  have hx2 : Ext E w E w' := ext_of_grow hr.own hx.os hx.tape hx.output hx.size hkeep
  have back : ∀ {v : SV} {val : Value}, Den E' w' v val → Bd 0 0 v → Den E w' v val := fun hv hbv => by
    have hvb : Den { E with nb := 0, nv := 0 } w' _ _ := hv.turn (E' := { E with nb := 0, nv := 0 }) hbv (fun nm hn => by simp at hn) (fun id ver y hi => by simp at hi) (fun b hb ho => by
      cases hE : E.own b with
      | none => rfl
      | some t =>
        have := (hx.oth b (by simp [Env.sub, hE])).1
        rw [ho] at this; cases this)
    exact hvb.ext (show Ext { E with nb := 0, nv := 0 } w' E w' from ⟨rfl, rfl, rfl, Nat.le_refl _, Nat.zero_le _, Nat.zero_le _, fun nm hn => by simp at hn, fun id ver x hi => by simp at hi, fun b _ ho => ⟨ho, rfl⟩, fun b ho => ⟨ho, rfl⟩⟩)
  refine ⟨o, h0, E, ⟨k1, rfl⟩, hr.quiet hx2 hkeep, hx2, ?_⟩
  cases o with
  | ret v =>
    cases e with
    | returned val => exact back hout k2
    | panicked _ => exact hout.elim
    | outgrown => exact hout.elim
  | pan v =>
    cases e with
    | panicked chain => obtain ⟨val, h1, h2⟩ := hout; exact ⟨val, h1, back h2 k2⟩
    | returned _ => exact hout.elim
    | outgrown => exact hout.elim
  | fin p ts => cases e <;> exact hout.elim
  | stop k t => cases e <;> exact hout.elim
  | rnd v => cases e <;> exact hout.elim

/-- A round that runs by itself. -/
theorem rounds_of_run {C : Ctx} (hC : CtxOk C) (hD : C.D = none) (hrd : C.rd = true) {nm rf : Nat} {rt : List SV} {assign body : Code} {h : HS} {K : SV → HS → Prop} {Q : Out → HS → Prop} (hQ : ∀ o h', Q o h' → ∃ v, o = .rnd v ∧ K v h') (n : Nat) (hfn : (C.FN rf).isSome = true)
    (hrun : run C n rf [.code assign, .beginR, .code body, .endR nm] rt [] h Q) : RoundS C.P nm rf rt assign body h K := by
  intro E w tmps c cs hr hd hn
  let B : Bt := { ds := [], kd := .normal, Fin := fun e m => (∃ fr w', m = lone fr (c :: cs) w' ∧ Rel0 E w Q e w' ∧ fr.fn = rf ∧ fr.leaving C.P w' e) ∨ (∃ v val h' E' w', e = .returned val ∧ m = lone (c.finish val) cs w' ∧ K v h' ∧ RelH E' h' w' ∧ Ext E w E' w' ∧ Den E' w' v val) }
  have hB : BtOk C (c :: cs) rf B E w Q :=
    ⟨fun _ => ⟨rfl, rfl, fun fr w e h1 h2 h3 => .inl ⟨fr, w, rfl, h1, h2, h3⟩⟩, fun l hl => (by rw [hD] at hl; cases hl), fun l hl => (by rw [hD] at hl; cases hl),
      fun _ _ => ⟨c, cs, rfl, fun v h' E' w' val hq hr' hx' hd' => by
        obtain ⟨v', hv, hk⟩ := hQ _ _ hq
        cases hv
        exact ⟨.returned val, _, .inr ⟨v, val, h', E', w', rfl, rfl, hk, hr', hx', hd'⟩, Steps.refl _ _⟩⟩⟩
  have hround : Frame.round (E.rho nm) rf tmps assign body .normal = fra B [] (rnf E.rho [.code assign, .beginR, .code body, .endR nm]) rf tmps (items E.rho [.code assign, .beginR, .code body, .endR nm]) := by
    simp [Frame.round, fra, rnf, rnd, items, B]
  have hs := run_sound n C hC (c :: cs) rf B E w Q hB rf _ _ [] h hrun (fun _ => rfl) E w tmps [] w.heap.size [] hd hr (by simp only [StkOk]; exact Nat.le_refl _) (Nat.le_refl _) (no_marks rfl _ _) (by simp only [kb]; exact ⟨hn, trivial⟩) (by simp only [InvK]) (Ext.refl E w) rfl (by
    cases hf : C.FN rf with
    | none => rw [hf] at hfn; cases hfn
    | some fn => exact ⟨fn, hC.FN rf fn hf⟩)
  rw [hround]
  obtain ⟨e, m', hfin, hc⟩ := hs
  rcases hfin with ⟨fr, w', rfl, ⟨o, h', E', q1, q2, q3, q4⟩, hfn, hl⟩ | ⟨v, val, h', E', w', rfl, rfl, hk, hr', hx', hd'⟩
  · obtain ⟨v, rfl, hk⟩ := hQ _ _ q1
    cases e <;> exact q4.elim
  · exact ⟨v, val, h', E', w', hc, hk, hr', hx', hd'⟩
theorem calls_of_run {C : Ctx} (hC : CtxOk C) (hD : C.off = C) {g : Nat} {fn : Func} {c : Code} (hf : C.FN g = some fn) (hb : fn.body = some c) {args : List SV} {h : HS} {K : Out → HS → Prop} (n : Nat)
    (hrun : run C n g [.code c] (catS args (anys (fn.ntmps - lenS args))) [] h K) : CallsS C.P g args h K := by
  have e : C.off = C := hD
  exact nests_of hC (R := run C n) (fun cs fid0 B E0 w0 Q hB => by rw [e] at hB ⊢; exact run_sound n C hC cs fid0 B E0 w0 Q hB) g fn c args h K hf hb hrun
end Go.Eng
end

/- The seat's tables. -/
section
namespace Go.Eng
open Go Go.Proofs
set_option maxRecDepth 100000
def tabL : List (Nat × TI) := [
  (1, ⟨.func, false, false, 1, 8, [.c .nilf], none, [], []⟩),
  (2, ⟨.int .i64, false, false, 1, 8, [.c (.int .i64 0)], none, [], []⟩),
  (3, ⟨.int .i64, false, false, 1, 8, [.c (.int .i64 0)], none, [], []⟩),
  (4, ⟨.bool, false, false, 1, 1, [.c (.bool false)], none, [], []⟩),
  (5, ⟨.int .u8, false, false, 1, 1, [.c (.int .u8 0)], none, [], []⟩),
  (6, ⟨.int .u8, false, false, 1, 1, [.c (.int .u8 0)], none, [], []⟩),
  (7, ⟨.struct [(0, 1), (1, 1), (2, 1), (3, 1)], true, false, 4, 24, [.c (.int .i64 0), .c (.int .i64 0), .c (.bool false), .c (.int .u8 0)], some [.i, .i, .b, .i], [false, false, false, false], []⟩),
  (8, ⟨.struct [(0, 1), (1, 1), (2, 1), (3, 1)], true, false, 4, 24, [.c (.int .i64 0), .c (.int .i64 0), .c (.bool false), .c (.int .u8 0)], some [.i, .i, .b, .i], [false, false, false, false], []⟩),
  (9, ⟨.str, false, false, 1, 16, [.c (.str ⟨#[]⟩)], none, [], []⟩),
  (10, ⟨.str, false, false, 1, 16, [.c (.str ⟨#[]⟩)], none, [], []⟩),
  (11, ⟨.str, false, false, 1, 16, [.c (.str ⟨#[]⟩)], none, [], []⟩),
  (12, ⟨.int .u64, false, false, 1, 8, [.c (.int .u64 0)], none, [], []⟩),
  (13, ⟨.struct [(0, 1), (1, 1)], true, false, 2, 24, [.c (.str ⟨#[]⟩), .c (.int .u64 0)], none, [false, false], []⟩),
  (14, ⟨.struct [(0, 1), (1, 1)], true, false, 2, 24, [.c (.str ⟨#[]⟩), .c (.int .u64 0)], none, [false, false], []⟩),
  (15, ⟨.other, false, false, 1, 8, [.c .nilp], none, [], []⟩),
  (16, ⟨.other, false, false, 1, 8, [.c .nilp], none, [], []⟩),
  (17, ⟨.other, false, false, 1, 8, [.c .nilp], none, [], []⟩),
  (18, ⟨.struct [(0, 1)], true, false, 1, 8, [.c .nilp], none, [false], []⟩),
  (19, ⟨.struct [(0, 1)], true, false, 1, 8, [.c .nilp], none, [false], []⟩),
  (20, ⟨.other, false, true, 1, 16, [.c .nili], none, [], []⟩),
  (21, ⟨.int .i32, false, false, 1, 4, [.c (.int .i32 0)], none, [], []⟩),
  (22, ⟨.struct [(0, 1), (1, 1)], true, false, 2, 16, [.c (.int .i64 0), .c (.int .i64 0)], some [.i, .i], [false, false], []⟩),
  (23, ⟨.struct [(0, 1), (1, 1)], true, false, 2, 16, [.c (.int .i64 0), .c (.int .i64 0)], some [.i, .i], [false, false], []⟩),
  (24, ⟨.struct [(0, 1), (1, 1), (2, 1), (3, 1), (4, 2)], true, false, 6, 48, [.c (.int .i64 0), .c (.int .i64 0), .c (.int .i64 0), .c (.int .i64 0), .c (.int .i64 0), .c (.int .i64 0)], some [.i, .i, .i, .i, .i, .i], [false, false, false, false, true], []⟩),
  (25, ⟨.struct [(0, 1), (1, 1), (2, 1), (3, 1), (4, 2)], true, false, 6, 48, [.c (.int .i64 0), .c (.int .i64 0), .c (.int .i64 0), .c (.int .i64 0), .c (.int .i64 0), .c (.int .i64 0)], some [.i, .i, .i, .i, .i, .i], [false, false, false, false, true], []⟩),
  (26, ⟨.int .u16, false, false, 1, 2, [.c (.int .u16 0)], none, [], []⟩),
  (27, ⟨.int .i64, false, false, 1, 8, [.c (.int .i64 0)], none, [], []⟩),
  (29, ⟨.func, false, false, 1, 8, [.c .nilf], none, [], []⟩),
  (30, ⟨.func, false, false, 1, 8, [.c .nilf], none, [], []⟩),
  (31, ⟨.func, false, false, 1, 8, [.c .nilf], none, [], []⟩),
  (32, ⟨.struct [(0, 1), (1, 1), (2, 1), (3, 1)], true, false, 4, 32, [.c (.int .i64 0), .c (.int .i64 0), .c (.int .i64 0), .c (.int .i64 0)], some [.i, .i, .i, .i], [false, false, false, false], []⟩),
  (33, ⟨.struct [(0, 1), (1, 1), (2, 1), (3, 1)], true, false, 4, 32, [.c (.int .i64 0), .c (.int .i64 0), .c (.int .i64 0), .c (.int .i64 0)], some [.i, .i, .i, .i], [false, false, false, false], []⟩),
  (34, ⟨.slice 33, false, false, 1, 24, [.sl 33 4], none, [], []⟩),
  (35, ⟨.slice 42, false, false, 1, 24, [.sl 42 4], none, [], []⟩),
  (36, ⟨.struct [(0, 1), (1, 2), (3, 2)], true, false, 5, 40, [.c (.int .i64 0), .c (.int .i64 0), .c (.int .i64 0), .c (.int .i64 0), .c (.int .i64 0)], some [.i, .i, .i, .i, .i], [false, true, true], []⟩),
  (37, ⟨.struct [(0, 1), (1, 2), (3, 2)], true, false, 5, 40, [.c (.int .i64 0), .c (.int .i64 0), .c (.int .i64 0), .c (.int .i64 0), .c (.int .i64 0)], some [.i, .i, .i, .i, .i], [false, true, true], []⟩),
  (38, ⟨.slice 37, false, false, 1, 24, [.sl 37 5], none, [], []⟩),
  (39, ⟨.slice 3, false, false, 1, 24, [.sl 3 1], none, [], []⟩),
  (40, ⟨.func, false, false, 1, 8, [.c .nilf], none, [], []⟩),
  (41, ⟨.struct [(0, 1), (1, 1), (2, 1), (3, 1)], true, false, 4, 32, [.c (.int .i64 0), .c (.int .i64 0), .c (.int .i64 0), .c (.int .i64 0)], some [.i, .i, .i, .i], [false, false, false, false], []⟩),
  (42, ⟨.struct [(0, 1), (1, 1), (2, 1), (3, 1)], true, false, 4, 32, [.c (.int .i64 0), .c (.int .i64 0), .c (.int .i64 0), .c (.int .i64 0)], some [.i, .i, .i, .i], [false, false, false, false], []⟩),
  (44, ⟨.func, false, false, 1, 8, [.c .nilf], none, [], []⟩),
  (45, ⟨.func, false, false, 1, 8, [.c .nilf], none, [], []⟩),
  (47, ⟨.func, false, false, 1, 8, [.c .nilf], none, [], []⟩),
  (48, ⟨.func, false, false, 1, 8, [.c .nilf], none, [], []⟩),
  (49, ⟨.slice 54, false, false, 1, 24, [.sl 54 5], none, [], []⟩),
  (50, ⟨.struct [(0, 1), (1, 1), (2, 1), (3, 1), (4, 1), (5, 1), (6, 1)], true, false, 7, 104, [.sl 54 5, .sl 3 1, .sl 3 1, .c (.int .i64 0), .c (.int .i64 0), .c (.int .i64 0), .c (.int .i64 0)], none, [false, false, false, false, false, false, false], []⟩),
  (51, ⟨.struct [(0, 1), (1, 1), (2, 1), (3, 1), (4, 1), (5, 1), (6, 1)], true, false, 7, 104, [.sl 54 5, .sl 3 1, .sl 3 1, .c (.int .i64 0), .c (.int .i64 0), .c (.int .i64 0), .c (.int .i64 0)], none, [false, false, false, false, false, false, false], []⟩),
  (52, ⟨.slice 70, false, false, 1, 24, [.sl 70 2], none, [], []⟩),
  (53, ⟨.struct [(0, 1), (1, 1), (2, 1), (3, 1), (4, 1)], true, false, 5, 56, [.sl 70 2, .c (.int .i64 0), .c (.int .i64 0), .c (.int .i64 0), .c (.int .i64 0)], none, [false, false, false, false, false], []⟩),
  (54, ⟨.struct [(0, 1), (1, 1), (2, 1), (3, 1), (4, 1)], true, false, 5, 56, [.sl 70 2, .c (.int .i64 0), .c (.int .i64 0), .c (.int .i64 0), .c (.int .i64 0)], none, [false, false, false, false, false], []⟩),
  (55, ⟨.slice 39, false, false, 1, 24, [.sl 39 1], none, [], []⟩),
  (57, ⟨.func, false, false, 1, 8, [.c .nilf], none, [], []⟩),
  (58, ⟨.func, false, false, 1, 8, [.c .nilf], none, [], []⟩),
  (59, ⟨.func, false, false, 1, 8, [.c .nilf], none, [], []⟩),
  (60, ⟨.struct [(0, 1), (1, 1)], true, false, 2, 16, [.c (.int .i64 0), .c (.int .i64 0)], some [.i, .i], [false, false], []⟩),
  (61, ⟨.struct [(0, 1), (1, 1)], true, false, 2, 16, [.c (.int .i64 0), .c (.int .i64 0)], some [.i, .i], [false, false], []⟩),
  (62, ⟨.slice 61, false, false, 1, 24, [.sl 61 2], none, [], []⟩),
  (63, ⟨.struct [(0, 1), (1, 1)], true, false, 2, 32, [.c (.int .i64 0), .sl 61 2], none, [false, false], []⟩),
  (64, ⟨.struct [(0, 1), (1, 1)], true, false, 2, 32, [.c (.int .i64 0), .sl 61 2], none, [false, false], []⟩),
  (65, ⟨.slice 64, false, false, 1, 24, [.sl 64 2], none, [], []⟩),
  (66, ⟨.struct [(0, 2), (2, 1), (3, 1), (4, 1)], true, false, 5, 56, [.c (.int .i64 0), .c (.int .i64 0), .sl 64 2, .c (.int .i64 0), .c (.int .i64 0)], none, [true, false, false, false], []⟩),
  (67, ⟨.struct [(0, 2), (2, 1), (3, 1), (4, 1)], true, false, 5, 56, [.c (.int .i64 0), .c (.int .i64 0), .sl 64 2, .c (.int .i64 0), .c (.int .i64 0)], none, [true, false, false, false], []⟩),
  (68, ⟨.slice 72, false, false, 1, 24, [.sl 72 4], none, [], []⟩),
  (69, ⟨.struct [(0, 1), (1, 1)], true, false, 2, 16, [.c (.int .i64 0), .c (.int .i64 0)], some [.i, .i], [false, false], []⟩),
  (70, ⟨.struct [(0, 1), (1, 1)], true, false, 2, 16, [.c (.int .i64 0), .c (.int .i64 0)], some [.i, .i], [false, false], []⟩),
  (71, ⟨.struct [(0, 1), (1, 1), (2, 1), (3, 1)], true, false, 4, 32, [.c (.int .i64 0), .c (.int .i64 0), .c (.int .i64 0), .c (.int .i64 0)], some [.i, .i, .i, .i], [false, false, false, false], []⟩),
  (72, ⟨.struct [(0, 1), (1, 1), (2, 1), (3, 1)], true, false, 4, 32, [.c (.int .i64 0), .c (.int .i64 0), .c (.int .i64 0), .c (.int .i64 0)], some [.i, .i, .i, .i], [false, false, false, false], []⟩),
  (74, ⟨.func, false, false, 1, 8, [.c .nilf], none, [], []⟩),
  (75, ⟨.struct [(0, 1), (1, 2), (3, 2), (5, 1), (6, 1), (7, 1), (8, 1)], true, false, 9, 72, [.c (.int .i64 0), .c (.int .i64 0), .c (.int .i64 0), .c (.int .i64 0), .c (.int .i64 0), .c (.int .i64 0), .c (.int .i64 0), .c (.int .i64 0), .c (.int .i64 0)], some [.i, .i, .i, .i, .i, .i, .i, .i, .i], [false, true, true, false, false, false, false], []⟩),
  (76, ⟨.struct [(0, 1), (1, 2), (3, 2), (5, 1), (6, 1), (7, 1), (8, 1)], true, false, 9, 72, [.c (.int .i64 0), .c (.int .i64 0), .c (.int .i64 0), .c (.int .i64 0), .c (.int .i64 0), .c (.int .i64 0), .c (.int .i64 0), .c (.int .i64 0), .c (.int .i64 0)], some [.i, .i, .i, .i, .i, .i, .i, .i, .i], [false, true, true, false, false, false, false], []⟩),
  (78, ⟨.func, false, false, 1, 8, [.c .nilf], none, [], []⟩),
  (79, ⟨.func, false, false, 1, 8, [.c .nilf], none, [], []⟩),
  (80, ⟨.slice 93, false, false, 1, 24, [.sl 93 3], none, [], []⟩),
  (81, ⟨.struct [(0, 1), (1, 1), (2, 1)], true, false, 3, 40, [.sl 93 3, .c (.int .i64 0), .c (.int .i64 0)], none, [false, false, false], []⟩),
  (82, ⟨.struct [(0, 1), (1, 1), (2, 1)], true, false, 3, 40, [.sl 93 3, .c (.int .i64 0), .c (.int .i64 0)], none, [false, false, false], []⟩),
  (83, ⟨.slice 95, false, false, 1, 24, [.sl 95 3], none, [], []⟩),
  (84, ⟨.slice 5, false, false, 1, 24, [.sl 5 1], none, [], []⟩),
  (86, ⟨.func, false, false, 1, 8, [.c .nilf], none, [], []⟩),
  (88, ⟨.func, false, false, 1, 8, [.c .nilf], none, [], []⟩),
  (89, ⟨.func, false, false, 1, 8, [.c .nilf], none, [], []⟩),
  (90, ⟨.func, false, false, 1, 8, [.c .nilf], none, [], []⟩),
  (91, ⟨.func, false, false, 1, 8, [.c .nilf], none, [], []⟩),
  (92, ⟨.struct [(0, 1), (1, 1), (2, 1)], true, false, 3, 24, [.c (.int .i64 0), .c (.int .i64 0), .c (.int .i64 0)], some [.i, .i, .i], [false, false, false], []⟩),
  (93, ⟨.struct [(0, 1), (1, 1), (2, 1)], true, false, 3, 24, [.c (.int .i64 0), .c (.int .i64 0), .c (.int .i64 0)], some [.i, .i, .i], [false, false, false], []⟩),
  (94, ⟨.struct [(0, 1), (1, 1), (2, 1)], true, false, 3, 24, [.c (.int .i64 0), .c (.int .i64 0), .c (.int .i64 0)], some [.i, .i, .i], [false, false, false], []⟩),
  (95, ⟨.struct [(0, 1), (1, 1), (2, 1)], true, false, 3, 24, [.c (.int .i64 0), .c (.int .i64 0), .c (.int .i64 0)], some [.i, .i, .i], [false, false, false], []⟩),
  (96, ⟨.func, false, false, 1, 8, [.c .nilf], none, [], []⟩),
  (97, ⟨.func, false, false, 1, 8, [.c .nilf], none, [], []⟩),
  (98, ⟨.func, false, false, 1, 8, [.c .nilf], none, [], []⟩),
  (99, ⟨.slice 296, false, false, 1, 24, [.sl 296 7], none, [], []⟩),
  (101, ⟨.func, false, false, 1, 8, [.c .nilf], none, [], []⟩),
  (102, ⟨.func, false, false, 1, 8, [.c .nilf], none, [], []⟩),
  (103, ⟨.func, false, false, 1, 8, [.c .nilf], none, [], []⟩),
  (104, ⟨.struct [(0, 1)], true, false, 1, 8, [.c (.int .i64 0)], some [.i], [false], []⟩),
  (105, ⟨.struct [(0, 1)], true, false, 1, 8, [.c (.int .i64 0)], some [.i], [false], []⟩),
  (107, ⟨.func, false, false, 1, 8, [.c .nilf], none, [], []⟩),
  (108, ⟨.func, false, false, 1, 8, [.c .nilf], none, [], []⟩),
  (109, ⟨.func, false, false, 1, 8, [.c .nilf], none, [], []⟩),
  (110, ⟨.struct [(0, 1)], true, false, 1, 8, [.c (.int .i64 0)], some [.i], [false], []⟩),
  (111, ⟨.struct [(0, 1)], true, false, 1, 8, [.c (.int .i64 0)], some [.i], [false], []⟩),
  (112, ⟨.func, false, false, 1, 8, [.c .nilf], none, [], []⟩),
  (113, ⟨.func, false, false, 1, 8, [.c .nilf], none, [], []⟩),
  (114, ⟨.func, false, false, 1, 8, [.c .nilf], none, [], []⟩),
  (115, ⟨.map 122 124, false, false, 1, 8, [.c .any], none, [], []⟩),
  (116, ⟨.func, false, false, 1, 8, [.c .nilf], none, [], []⟩),
  (117, ⟨.array 3 3, true, false, 3, 24, [.c (.int .i64 0), .c (.int .i64 0), .c (.int .i64 0)], some [.i, .i, .i], [], []⟩),
  (118, ⟨.array 3 3, true, false, 3, 24, [.c (.int .i64 0), .c (.int .i64 0), .c (.int .i64 0)], some [.i, .i, .i], [], []⟩),
  (119, ⟨.struct [(0, 3), (3, 1), (4, 1)], true, false, 5, 40, [.c (.int .i64 0), .c (.int .i64 0), .c (.int .i64 0), .c (.int .i64 0), .c (.int .i64 0)], some [.i, .i, .i, .i, .i], [true, false, false], []⟩),
  (120, ⟨.struct [(0, 3), (3, 1), (4, 1)], true, false, 5, 40, [.c (.int .i64 0), .c (.int .i64 0), .c (.int .i64 0), .c (.int .i64 0), .c (.int .i64 0)], some [.i, .i, .i, .i, .i], [true, false, false], []⟩),
  (121, ⟨.struct [(0, 1), (1, 5)], true, false, 6, 48, [.c (.int .i64 0), .c (.int .i64 0), .c (.int .i64 0), .c (.int .i64 0), .c (.int .i64 0), .c (.int .i64 0)], some [.i, .i, .i, .i, .i, .i], [false, true], []⟩),
  (122, ⟨.struct [(0, 1), (1, 5)], true, false, 6, 48, [.c (.int .i64 0), .c (.int .i64 0), .c (.int .i64 0), .c (.int .i64 0), .c (.int .i64 0), .c (.int .i64 0)], some [.i, .i, .i, .i, .i, .i], [false, true], []⟩),
  (123, ⟨.struct [(0, 1), (1, 1), (2, 3)], true, false, 5, 40, [.c (.bool false), .c (.int .i64 0), .c (.int .i64 0), .c (.int .i64 0), .c (.int .i64 0)], some [.b, .i, .i, .i, .i], [false, false, true], []⟩),
  (124, ⟨.struct [(0, 1), (1, 1), (2, 3)], true, false, 5, 40, [.c (.bool false), .c (.int .i64 0), .c (.int .i64 0), .c (.int .i64 0), .c (.int .i64 0)], some [.b, .i, .i, .i, .i], [false, false, true], []⟩),
  (126, ⟨.func, false, false, 1, 8, [.c .nilf], none, [], []⟩),
  (127, ⟨.func, false, false, 1, 8, [.c .nilf], none, [], []⟩),
  (128, ⟨.func, false, false, 1, 8, [.c .nilf], none, [], []⟩),
  (129, ⟨.other, false, false, 1, 8, [.c .nilp], none, [], []⟩),
  (131, ⟨.func, false, false, 1, 8, [.c .nilf], none, [], []⟩),
  (132, ⟨.func, false, false, 1, 8, [.c .nilf], none, [], []⟩),
  (133, ⟨.func, false, false, 1, 8, [.c .nilf], none, [], []⟩),
  (135, ⟨.func, false, false, 1, 8, [.c .nilf], none, [], []⟩),
  (136, ⟨.func, false, false, 1, 8, [.c .nilf], none, [], []⟩),
  (137, ⟨.func, false, false, 1, 8, [.c .nilf], none, [], []⟩),
  (138, ⟨.slice 118, false, false, 1, 24, [.sl 118 3], none, [], []⟩),
  (140, ⟨.func, false, false, 1, 8, [.c .nilf], none, [], []⟩),
  (141, ⟨.struct [(0, 1), (1, 1), (2, 1)], true, false, 3, 24, [.c (.int .i64 0), .c (.int .i64 0), .c (.int .i64 0)], some [.i, .i, .i], [false, false, false], []⟩),
  (142, ⟨.struct [(0, 1), (1, 1), (2, 1)], true, false, 3, 24, [.c (.int .i64 0), .c (.int .i64 0), .c (.int .i64 0)], some [.i, .i, .i], [false, false, false], []⟩),
  (144, ⟨.func, false, false, 1, 8, [.c .nilf], none, [], []⟩),
  (145, ⟨.func, false, false, 1, 8, [.c .nilf], none, [], []⟩),
  (146, ⟨.func, false, false, 1, 8, [.c .nilf], none, [], []⟩),
  (147, ⟨.func, false, false, 1, 8, [.c .nilf], none, [], []⟩),
  (148, ⟨.struct [(0, 1)], true, false, 1, 8, [.c (.int .i64 0)], some [.i], [false], []⟩),
  (149, ⟨.struct [(0, 1)], true, false, 1, 8, [.c (.int .i64 0)], some [.i], [false], []⟩),
  (151, ⟨.other, false, false, 1, 8, [.c .nilp], none, [], []⟩),
  (152, ⟨.func, false, false, 1, 8, [.c .nilf], none, [], []⟩),
  (153, ⟨.func, false, false, 1, 8, [.c .nilf], none, [], []⟩),
  (154, ⟨.array 6 153, true, false, 6, 48, [.c .nilf, .c .nilf, .c .nilf, .c .nilf, .c .nilf, .c .nilf], none, [], []⟩),
  (155, ⟨.func, false, false, 1, 8, [.c .nilf], none, [], []⟩),
  (156, ⟨.struct [(0, 5), (5, 9)], true, false, 14, 128, [.c (.int .i64 0), .c (.int .i64 0), .sl 64 2, .c (.int .i64 0), .c (.int .i64 0), .c (.int .i64 0), .c (.int .i64 0), .c (.int .i64 0), .c (.int .i64 0), .c (.int .i64 0), .c (.int .i64 0), .c (.int .i64 0), .c (.int .i64 0), .c (.int .i64 0)], none, [true, true], []⟩),
  (157, ⟨.struct [(0, 5), (5, 9)], true, false, 14, 128, [.c (.int .i64 0), .c (.int .i64 0), .sl 64 2, .c (.int .i64 0), .c (.int .i64 0), .c (.int .i64 0), .c (.int .i64 0), .c (.int .i64 0), .c (.int .i64 0), .c (.int .i64 0), .c (.int .i64 0), .c (.int .i64 0), .c (.int .i64 0), .c (.int .i64 0)], none, [true, true], []⟩),
  (158, ⟨.array 12 3, true, false, 12, 96, [.c (.int .i64 0), .c (.int .i64 0), .c (.int .i64 0), .c (.int .i64 0), .c (.int .i64 0), .c (.int .i64 0), .c (.int .i64 0), .c (.int .i64 0), .c (.int .i64 0), .c (.int .i64 0), .c (.int .i64 0), .c (.int .i64 0)], some [.i, .i, .i, .i, .i, .i, .i, .i, .i, .i, .i, .i], [], []⟩),
  (159, ⟨.struct [(0, 1), (1, 12)], true, false, 13, 104, [.c (.int .i64 0), .c (.int .i64 0), .c (.int .i64 0), .c (.int .i64 0), .c (.int .i64 0), .c (.int .i64 0), .c (.int .i64 0), .c (.int .i64 0), .c (.int .i64 0), .c (.int .i64 0), .c (.int .i64 0), .c (.int .i64 0), .c (.int .i64 0)], some [.i, .i, .i, .i, .i, .i, .i, .i, .i, .i, .i, .i, .i], [false, true], []⟩),
  (160, ⟨.struct [(0, 1), (1, 12)], true, false, 13, 104, [.c (.int .i64 0), .c (.int .i64 0), .c (.int .i64 0), .c (.int .i64 0), .c (.int .i64 0), .c (.int .i64 0), .c (.int .i64 0), .c (.int .i64 0), .c (.int .i64 0), .c (.int .i64 0), .c (.int .i64 0), .c (.int .i64 0), .c (.int .i64 0)], some [.i, .i, .i, .i, .i, .i, .i, .i, .i, .i, .i, .i, .i], [false, true], []⟩),
  (161, ⟨.int .u64, false, false, 1, 8, [.c (.int .u64 0)], none, [], []⟩),
  (162, ⟨.struct [(0, 1)], true, false, 1, 24, [.sl 5 1], none, [false], []⟩),
  (163, ⟨.struct [(0, 1)], true, false, 1, 24, [.sl 5 1], none, [false], []⟩),
  (164, ⟨.struct [(0, 1), (1, 1)], true, false, 2, 32, [.sl 5 1, .c (.int .i64 0)], none, [true, false], []⟩),
  (165, ⟨.struct [(0, 1), (1, 1)], true, false, 2, 32, [.sl 5 1, .c (.int .i64 0)], none, [true, false], []⟩),
  (166, ⟨.func, false, false, 1, 8, [.c .nilf], none, [], []⟩),
  (167, ⟨.func, false, false, 1, 8, [.c .nilf], none, [], []⟩),
  (168, ⟨.int .u64, false, false, 1, 8, [.c (.int .u64 0)], none, [], []⟩),
  (169, ⟨.func, false, false, 1, 8, [.c .nilf], none, [], []⟩),
  (170, ⟨.func, false, false, 1, 8, [.c .nilf], none, [], []⟩),
  (171, ⟨.func, false, false, 1, 8, [.c .nilf], none, [], []⟩),
  (172, ⟨.func, false, false, 1, 8, [.c .nilf], none, [], []⟩),
  (173, ⟨.func, false, false, 1, 8, [.c .nilf], none, [], []⟩),
  (174, ⟨.struct [(0, 1), (1, 1)], true, false, 2, 32, [.sl 5 1, .c (.int .i64 0)], none, [true, false], []⟩),
  (175, ⟨.struct [(0, 1), (1, 1)], true, false, 2, 32, [.sl 5 1, .c (.int .i64 0)], none, [true, false], []⟩),
  (176, ⟨.func, false, false, 1, 8, [.c .nilf], none, [], []⟩),
  (177, ⟨.func, false, false, 1, 8, [.c .nilf], none, [], []⟩),
  (178, ⟨.func, false, false, 1, 8, [.c .nilf], none, [], []⟩),
  (179, ⟨.struct [(0, 1)], true, false, 1, 8, [.c (.int .i64 0)], some [.i], [false], []⟩),
  (180, ⟨.struct [(0, 1)], true, false, 1, 8, [.c (.int .i64 0)], some [.i], [false], []⟩),
  (182, ⟨.func, false, false, 1, 8, [.c .nilf], none, [], []⟩),
  (183, ⟨.func, false, false, 1, 8, [.c .nilf], none, [], []⟩),
  (184, ⟨.func, false, false, 1, 8, [.c .nilf], none, [], []⟩),
  (185, ⟨.func, false, false, 1, 8, [.c .nilf], none, [], []⟩),
  (186, ⟨.func, false, false, 1, 8, [.c .nilf], none, [], []⟩),
  (188, ⟨.func, false, false, 1, 8, [.c .nilf], none, [], []⟩),
  (189, ⟨.other, false, false, 1, 8, [.c .nilp], none, [], []⟩),
  (191, ⟨.func, false, false, 1, 8, [.c .nilf], none, [], []⟩),
  (192, ⟨.struct [(0, 6), (6, 1)], true, false, 7, 72, [.c (.int .i64 0), .c (.int .i64 0), .c (.int .i64 0), .c (.int .i64 0), .c (.int .i64 0), .c (.int .i64 0), .sl 296 7], none, [true, false], []⟩),
  (193, ⟨.struct [(0, 6), (6, 1)], true, false, 7, 72, [.c (.int .i64 0), .c (.int .i64 0), .c (.int .i64 0), .c (.int .i64 0), .c (.int .i64 0), .c (.int .i64 0), .sl 296 7], none, [true, false], []⟩),
  (194, ⟨.func, false, false, 1, 8, [.c .nilf], none, [], []⟩),
  (195, ⟨.func, false, false, 1, 8, [.c .nilf], none, [], []⟩),
  (196, ⟨.func, false, false, 1, 8, [.c .nilf], none, [], []⟩),
  (197, ⟨.func, false, false, 1, 8, [.c .nilf], none, [], []⟩),
  (198, ⟨.other, false, false, 1, 8, [.c .nilp], none, [], []⟩),
  (199, ⟨.func, false, false, 1, 8, [.c .nilf], none, [], []⟩),
  (200, ⟨.func, false, false, 1, 8, [.c .nilf], none, [], []⟩),
  (201, ⟨.struct [(0, 1)], true, false, 1, 8, [.c (.int .i64 0)], some [.i], [false], []⟩),
  (202, ⟨.struct [(0, 1)], true, false, 1, 8, [.c (.int .i64 0)], some [.i], [false], []⟩),
  (204, ⟨.func, false, false, 1, 8, [.c .nilf], none, [], []⟩),
  (205, ⟨.func, false, false, 1, 8, [.c .nilf], none, [], []⟩),
  (206, ⟨.func, false, false, 1, 8, [.c .nilf], none, [], []⟩),
  (207, ⟨.func, false, false, 1, 8, [.c .nilf], none, [], []⟩),
  (208, ⟨.other, false, false, 1, 8, [.c .nilp], none, [], []⟩),
  (209, ⟨.other, false, false, 1, 8, [.c .nilp], none, [], []⟩),
  (210, ⟨.struct [], true, false, 0, 0, [], some [], [], []⟩),
  (211, ⟨.struct [], true, false, 0, 0, [], some [], [], []⟩),
  (213, ⟨.other, false, false, 1, 8, [.c .nilp], none, [], []⟩),
  (214, ⟨.func, false, false, 1, 8, [.c .nilf], none, [], []⟩),
  (215, ⟨.func, false, false, 1, 8, [.c .nilf], none, [], []⟩),
  (216, ⟨.func, false, false, 1, 8, [.c .nilf], none, [], []⟩),
  (217, ⟨.func, false, false, 1, 8, [.c .nilf], none, [], []⟩),
  (218, ⟨.struct [(0, 1)], true, false, 1, 8, [.c (.int .i64 0)], some [.i], [false], []⟩),
  (219, ⟨.struct [(0, 1)], true, false, 1, 8, [.c (.int .i64 0)], some [.i], [false], []⟩),
  (221, ⟨.other, false, true, 1, 16, [.c .nili], none, [], []⟩),
  (222, ⟨.other, false, true, 1, 16, [.c .nili], none, [], []⟩),
  (223, ⟨.func, false, false, 1, 8, [.c .nilf], none, [], []⟩),
  (224, ⟨.func, false, false, 1, 8, [.c .nilf], none, [], []⟩),
  (225, ⟨.func, false, false, 1, 8, [.c .nilf], none, [], []⟩),
  (226, ⟨.func, false, false, 1, 8, [.c .nilf], none, [], []⟩),
  (227, ⟨.func, false, false, 1, 8, [.c .nilf], none, [], []⟩),
  (228, ⟨.func, false, false, 1, 8, [.c .nilf], none, [], []⟩),
  (229, ⟨.func, false, false, 1, 8, [.c .nilf], none, [], []⟩),
  (230, ⟨.func, false, false, 1, 8, [.c .nilf], none, [], []⟩),
  (231, ⟨.func, false, false, 1, 8, [.c .nilf], none, [], []⟩),
  (232, ⟨.func, false, false, 1, 8, [.c .nilf], none, [], []⟩),
  (233, ⟨.func, false, false, 1, 8, [.c .nilf], none, [], []⟩),
  (234, ⟨.func, false, false, 1, 8, [.c .nilf], none, [], []⟩),
  (235, ⟨.func, false, false, 1, 8, [.c .nilf], none, [], []⟩),
  (236, ⟨.func, false, false, 1, 8, [.c .nilf], none, [], []⟩),
  (237, ⟨.other, false, false, 1, 8, [.c .nilp], none, [], []⟩),
  (238, ⟨.other, false, false, 1, 8, [.c .nilp], none, [], []⟩),
  (239, ⟨.func, false, false, 1, 8, [.c .nilf], none, [], []⟩),
  (240, ⟨.func, false, false, 1, 8, [.c .nilf], none, [], []⟩),
  (241, ⟨.func, false, false, 1, 8, [.c .nilf], none, [], []⟩),
  (242, ⟨.func, false, false, 1, 8, [.c .nilf], none, [], []⟩),
  (243, ⟨.func, false, false, 1, 8, [.c .nilf], none, [], []⟩),
  (244, ⟨.func, false, false, 1, 8, [.c .nilf], none, [], []⟩),
  (245, ⟨.func, false, false, 1, 8, [.c .nilf], none, [], []⟩),
  (246, ⟨.func, false, false, 1, 8, [.c .nilf], none, [], []⟩),
  (247, ⟨.struct [(0, 1)], true, false, 1, 8, [.c (.int .i64 0)], some [.i], [false], []⟩),
  (248, ⟨.struct [(0, 1)], true, false, 1, 8, [.c (.int .i64 0)], some [.i], [false], [("icehall/gear.do", 182)]⟩),
  (249, ⟨.struct [(0, 1), (1, 1)], true, false, 2, 16, [.c (.int .i64 0), .c (.int .i64 0)], some [.i, .i], [false, false], []⟩),
  (250, ⟨.struct [(0, 1), (1, 1)], true, false, 2, 16, [.c (.int .i64 0), .c (.int .i64 0)], some [.i, .i], [false, false], [("icehall/gear.do", 184)]⟩),
  (251, ⟨.struct [(0, 1)], true, false, 1, 8, [.c (.int .i64 0)], some [.i], [false], []⟩),
  (252, ⟨.struct [(0, 1)], true, false, 1, 8, [.c (.int .i64 0)], some [.i], [false], [("icehall/gear.do", 190)]⟩),
  (253, ⟨.struct [(0, 1)], true, false, 1, 8, [.c (.int .i64 0)], some [.i], [false], [("icehall/gear.do", 191)]⟩),
  (254, ⟨.struct [(0, 1)], true, false, 1, 8, [.c (.int .i64 0)], some [.i], [false], [("icehall/gear.do", 192)]⟩),
  (255, ⟨.func, false, false, 1, 8, [.c .nilf], none, [], []⟩),
  (256, ⟨.func, false, false, 1, 8, [.c .nilf], none, [], []⟩),
  (257, ⟨.func, false, false, 1, 8, [.c .nilf], none, [], []⟩),
  (258, ⟨.func, false, false, 1, 8, [.c .nilf], none, [], []⟩),
  (259, ⟨.func, false, false, 1, 8, [.c .nilf], none, [], []⟩),
  (260, ⟨.func, false, false, 1, 8, [.c .nilf], none, [], []⟩),
  (261, ⟨.func, false, false, 1, 8, [.c .nilf], none, [], []⟩),
  (262, ⟨.func, false, false, 1, 8, [.c .nilf], none, [], []⟩),
  (263, ⟨.func, false, false, 1, 8, [.c .nilf], none, [], []⟩),
  (264, ⟨.int .i64, false, false, 1, 8, [.c (.int .i64 0)], none, [], []⟩),
  (266, ⟨.func, false, false, 1, 8, [.c .nilf], none, [], []⟩),
  (267, ⟨.func, false, false, 1, 8, [.c .nilf], none, [], []⟩),
  (268, ⟨.func, false, false, 1, 8, [.c .nilf], none, [], []⟩),
  (270, ⟨.func, false, false, 1, 8, [.c .nilf], none, [], []⟩),
  (271, ⟨.func, false, false, 1, 8, [.c .nilf], none, [], []⟩),
  (272, ⟨.int .u32, false, false, 1, 4, [.c (.int .u32 0)], none, [], []⟩),
  (273, ⟨.int .u64, false, false, 1, 8, [.c (.int .u64 0)], none, [], []⟩),
  (274, ⟨.func, false, false, 1, 8, [.c .nilf], none, [], []⟩),
  (275, ⟨.func, false, false, 1, 8, [.c .nilf], none, [], []⟩),
  (276, ⟨.other, false, false, 1, 8, [.c .nilp], none, [], []⟩),
  (277, ⟨.func, false, false, 1, 8, [.c .nilf], none, [], []⟩),
  (278, ⟨.other, false, false, 1, 8, [.c .nilp], none, [], []⟩),
  (279, ⟨.func, false, false, 1, 8, [.c .nilf], none, [], []⟩),
  (280, ⟨.func, false, false, 1, 8, [.c .nilf], none, [], []⟩),
  (281, ⟨.struct [(0, 1), (1, 1), (2, 1), (3, 1)], true, false, 4, 40, [.c .nilp, .c .nilp, .c .nilp, .c (.str ⟨#[]⟩)], none, [false, false, false, false], []⟩),
  (282, ⟨.struct [(0, 1), (1, 1), (2, 1), (3, 1)], true, false, 4, 40, [.c .nilp, .c .nilp, .c .nilp, .c (.str ⟨#[]⟩)], none, [false, false, false, false], []⟩),
  (283, ⟨.array 0 16, true, false, 0, 0, [], none, [], []⟩),
  (286, ⟨.func, false, false, 1, 8, [.c .nilf], none, [], []⟩),
  (287, ⟨.int .u8, false, false, 1, 1, [.c (.int .u8 0)], none, [], []⟩),
  (288, ⟨.int .u8, false, false, 1, 1, [.c (.int .u8 0)], none, [], []⟩),
  (289, ⟨.func, false, false, 1, 8, [.c .nilf], none, [], []⟩),
  (290, ⟨.other, false, false, 1, 8, [.c .nilp], none, [], []⟩),
  (291, ⟨.int .i32, false, false, 1, 4, [.c (.int .i32 0)], none, [], []⟩),
  (292, ⟨.int .i32, false, false, 1, 4, [.c (.int .i32 0)], none, [], []⟩),
  (293, ⟨.struct [(0, 1), (1, 1), (2, 1), (3, 1), (4, 1), (5, 1), (6, 1), (7, 1), (8, 1), (9, 1), (10, 1)], true, false, 11, 48, [.c (.int .u64 0), .c (.int .u64 0), .c (.int .u32 0), .c (.int .u8 0), .c (.int .u8 0), .c (.int .u8 0), .c (.int .u8 0), .c .nilf, .c .nilp, .c (.int .i32 0), .c (.int .i32 0)], none, [false, false, false, false, false, false, false, false, false, false, false], []⟩),
  (294, ⟨.struct [(0, 1), (1, 1), (2, 1), (3, 1), (4, 1), (5, 1), (6, 1), (7, 1), (8, 1), (9, 1), (10, 1)], true, false, 11, 48, [.c (.int .u64 0), .c (.int .u64 0), .c (.int .u32 0), .c (.int .u8 0), .c (.int .u8 0), .c (.int .u8 0), .c (.int .u8 0), .c .nilf, .c .nilp, .c (.int .i32 0), .c (.int .i32 0)], none, [false, false, false, false, false, false, false, false, false, false, false], []⟩),
  (295, ⟨.struct [(0, 1), (1, 2), (3, 1), (4, 1), (5, 1), (6, 1)], true, false, 7, 56, [.c (.int .i64 0), .c (.int .i64 0), .c (.int .i64 0), .c (.int .i64 0), .c (.int .i64 0), .c (.int .i64 0), .c (.bool false)], some [.i, .i, .i, .i, .i, .i, .b], [false, true, false, false, false, false], []⟩),
  (296, ⟨.struct [(0, 1), (1, 2), (3, 1), (4, 1), (5, 1), (6, 1)], true, false, 7, 56, [.c (.int .i64 0), .c (.int .i64 0), .c (.int .i64 0), .c (.int .i64 0), .c (.int .i64 0), .c (.int .i64 0), .c (.bool false)], some [.i, .i, .i, .i, .i, .i, .b], [false, true, false, false, false, false], []⟩),
  (297, ⟨.func, false, false, 1, 8, [.c .nilf], none, [], []⟩),
  (298, ⟨.func, false, false, 1, 8, [.c .nilf], none, [], []⟩),
  (299, ⟨.other, false, false, 1, 8, [.c .nilp], none, [], []⟩),
  (300, ⟨.func, false, false, 1, 8, [.c .nilf], none, [], []⟩),
  (301, ⟨.func, false, false, 1, 8, [.c .nilf], none, [], []⟩),
  (302, ⟨.func, false, false, 1, 8, [.c .nilf], none, [], []⟩),
  (303, ⟨.func, false, false, 1, 8, [.c .nilf], none, [], []⟩),
  (304, ⟨.other, false, false, 1, 8, [.c .nilp], none, [], []⟩),
  (305, ⟨.func, false, false, 1, 8, [.c .nilf], none, [], []⟩),
  (306, ⟨.func, false, false, 1, 8, [.c .nilf], none, [], []⟩)]
def tab : Nat → Option TI := lookT tabL
theorem tab_chk : (tabL.all fun x => chk Try.prog x.1 x.2) = true := by kernel_rfl
theorem tab_1 : tab 1 = some ⟨.func, false, false, 1, 8, [.c .nilf], none, [], []⟩ := rfl
theorem tab_2 : tab 2 = some ⟨.int .i64, false, false, 1, 8, [.c (.int .i64 0)], none, [], []⟩ := rfl
theorem tab_3 : tab 3 = some ⟨.int .i64, false, false, 1, 8, [.c (.int .i64 0)], none, [], []⟩ := rfl
theorem tab_4 : tab 4 = some ⟨.bool, false, false, 1, 1, [.c (.bool false)], none, [], []⟩ := rfl
theorem tab_5 : tab 5 = some ⟨.int .u8, false, false, 1, 1, [.c (.int .u8 0)], none, [], []⟩ := rfl
theorem tab_6 : tab 6 = some ⟨.int .u8, false, false, 1, 1, [.c (.int .u8 0)], none, [], []⟩ := rfl
theorem tab_7 : tab 7 = some ⟨.struct [(0, 1), (1, 1), (2, 1), (3, 1)], true, false, 4, 24, [.c (.int .i64 0), .c (.int .i64 0), .c (.bool false), .c (.int .u8 0)], some [.i, .i, .b, .i], [false, false, false, false], []⟩ := rfl
theorem tab_8 : tab 8 = some ⟨.struct [(0, 1), (1, 1), (2, 1), (3, 1)], true, false, 4, 24, [.c (.int .i64 0), .c (.int .i64 0), .c (.bool false), .c (.int .u8 0)], some [.i, .i, .b, .i], [false, false, false, false], []⟩ := rfl
theorem tab_9 : tab 9 = some ⟨.str, false, false, 1, 16, [.c (.str ⟨#[]⟩)], none, [], []⟩ := rfl
theorem tab_10 : tab 10 = some ⟨.str, false, false, 1, 16, [.c (.str ⟨#[]⟩)], none, [], []⟩ := rfl
theorem tab_11 : tab 11 = some ⟨.str, false, false, 1, 16, [.c (.str ⟨#[]⟩)], none, [], []⟩ := rfl
theorem tab_12 : tab 12 = some ⟨.int .u64, false, false, 1, 8, [.c (.int .u64 0)], none, [], []⟩ := rfl
theorem tab_13 : tab 13 = some ⟨.struct [(0, 1), (1, 1)], true, false, 2, 24, [.c (.str ⟨#[]⟩), .c (.int .u64 0)], none, [false, false], []⟩ := rfl
theorem tab_14 : tab 14 = some ⟨.struct [(0, 1), (1, 1)], true, false, 2, 24, [.c (.str ⟨#[]⟩), .c (.int .u64 0)], none, [false, false], []⟩ := rfl
theorem tab_15 : tab 15 = some ⟨.other, false, false, 1, 8, [.c .nilp], none, [], []⟩ := rfl
theorem tab_16 : tab 16 = some ⟨.other, false, false, 1, 8, [.c .nilp], none, [], []⟩ := rfl
theorem tab_17 : tab 17 = some ⟨.other, false, false, 1, 8, [.c .nilp], none, [], []⟩ := rfl
theorem tab_18 : tab 18 = some ⟨.struct [(0, 1)], true, false, 1, 8, [.c .nilp], none, [false], []⟩ := rfl
theorem tab_19 : tab 19 = some ⟨.struct [(0, 1)], true, false, 1, 8, [.c .nilp], none, [false], []⟩ := rfl
theorem tab_20 : tab 20 = some ⟨.other, false, true, 1, 16, [.c .nili], none, [], []⟩ := rfl
theorem tab_21 : tab 21 = some ⟨.int .i32, false, false, 1, 4, [.c (.int .i32 0)], none, [], []⟩ := rfl
theorem tab_22 : tab 22 = some ⟨.struct [(0, 1), (1, 1)], true, false, 2, 16, [.c (.int .i64 0), .c (.int .i64 0)], some [.i, .i], [false, false], []⟩ := rfl
theorem tab_23 : tab 23 = some ⟨.struct [(0, 1), (1, 1)], true, false, 2, 16, [.c (.int .i64 0), .c (.int .i64 0)], some [.i, .i], [false, false], []⟩ := rfl
theorem tab_24 : tab 24 = some ⟨.struct [(0, 1), (1, 1), (2, 1), (3, 1), (4, 2)], true, false, 6, 48, [.c (.int .i64 0), .c (.int .i64 0), .c (.int .i64 0), .c (.int .i64 0), .c (.int .i64 0), .c (.int .i64 0)], some [.i, .i, .i, .i, .i, .i], [false, false, false, false, true], []⟩ := rfl
theorem tab_25 : tab 25 = some ⟨.struct [(0, 1), (1, 1), (2, 1), (3, 1), (4, 2)], true, false, 6, 48, [.c (.int .i64 0), .c (.int .i64 0), .c (.int .i64 0), .c (.int .i64 0), .c (.int .i64 0), .c (.int .i64 0)], some [.i, .i, .i, .i, .i, .i], [false, false, false, false, true], []⟩ := rfl
theorem tab_26 : tab 26 = some ⟨.int .u16, false, false, 1, 2, [.c (.int .u16 0)], none, [], []⟩ := rfl
theorem tab_27 : tab 27 = some ⟨.int .i64, false, false, 1, 8, [.c (.int .i64 0)], none, [], []⟩ := rfl
theorem tab_29 : tab 29 = some ⟨.func, false, false, 1, 8, [.c .nilf], none, [], []⟩ := rfl
theorem tab_30 : tab 30 = some ⟨.func, false, false, 1, 8, [.c .nilf], none, [], []⟩ := rfl
theorem tab_31 : tab 31 = some ⟨.func, false, false, 1, 8, [.c .nilf], none, [], []⟩ := rfl
theorem tab_32 : tab 32 = some ⟨.struct [(0, 1), (1, 1), (2, 1), (3, 1)], true, false, 4, 32, [.c (.int .i64 0), .c (.int .i64 0), .c (.int .i64 0), .c (.int .i64 0)], some [.i, .i, .i, .i], [false, false, false, false], []⟩ := rfl
theorem tab_33 : tab 33 = some ⟨.struct [(0, 1), (1, 1), (2, 1), (3, 1)], true, false, 4, 32, [.c (.int .i64 0), .c (.int .i64 0), .c (.int .i64 0), .c (.int .i64 0)], some [.i, .i, .i, .i], [false, false, false, false], []⟩ := rfl
theorem tab_34 : tab 34 = some ⟨.slice 33, false, false, 1, 24, [.sl 33 4], none, [], []⟩ := rfl
theorem tab_35 : tab 35 = some ⟨.slice 42, false, false, 1, 24, [.sl 42 4], none, [], []⟩ := rfl
theorem tab_36 : tab 36 = some ⟨.struct [(0, 1), (1, 2), (3, 2)], true, false, 5, 40, [.c (.int .i64 0), .c (.int .i64 0), .c (.int .i64 0), .c (.int .i64 0), .c (.int .i64 0)], some [.i, .i, .i, .i, .i], [false, true, true], []⟩ := rfl
theorem tab_37 : tab 37 = some ⟨.struct [(0, 1), (1, 2), (3, 2)], true, false, 5, 40, [.c (.int .i64 0), .c (.int .i64 0), .c (.int .i64 0), .c (.int .i64 0), .c (.int .i64 0)], some [.i, .i, .i, .i, .i], [false, true, true], []⟩ := rfl
theorem tab_38 : tab 38 = some ⟨.slice 37, false, false, 1, 24, [.sl 37 5], none, [], []⟩ := rfl
theorem tab_39 : tab 39 = some ⟨.slice 3, false, false, 1, 24, [.sl 3 1], none, [], []⟩ := rfl
theorem tab_40 : tab 40 = some ⟨.func, false, false, 1, 8, [.c .nilf], none, [], []⟩ := rfl
theorem tab_41 : tab 41 = some ⟨.struct [(0, 1), (1, 1), (2, 1), (3, 1)], true, false, 4, 32, [.c (.int .i64 0), .c (.int .i64 0), .c (.int .i64 0), .c (.int .i64 0)], some [.i, .i, .i, .i], [false, false, false, false], []⟩ := rfl
theorem tab_42 : tab 42 = some ⟨.struct [(0, 1), (1, 1), (2, 1), (3, 1)], true, false, 4, 32, [.c (.int .i64 0), .c (.int .i64 0), .c (.int .i64 0), .c (.int .i64 0)], some [.i, .i, .i, .i], [false, false, false, false], []⟩ := rfl
theorem tab_44 : tab 44 = some ⟨.func, false, false, 1, 8, [.c .nilf], none, [], []⟩ := rfl
theorem tab_45 : tab 45 = some ⟨.func, false, false, 1, 8, [.c .nilf], none, [], []⟩ := rfl
theorem tab_47 : tab 47 = some ⟨.func, false, false, 1, 8, [.c .nilf], none, [], []⟩ := rfl
theorem tab_48 : tab 48 = some ⟨.func, false, false, 1, 8, [.c .nilf], none, [], []⟩ := rfl
theorem tab_49 : tab 49 = some ⟨.slice 54, false, false, 1, 24, [.sl 54 5], none, [], []⟩ := rfl
theorem tab_50 : tab 50 = some ⟨.struct [(0, 1), (1, 1), (2, 1), (3, 1), (4, 1), (5, 1), (6, 1)], true, false, 7, 104, [.sl 54 5, .sl 3 1, .sl 3 1, .c (.int .i64 0), .c (.int .i64 0), .c (.int .i64 0), .c (.int .i64 0)], none, [false, false, false, false, false, false, false], []⟩ := rfl
theorem tab_51 : tab 51 = some ⟨.struct [(0, 1), (1, 1), (2, 1), (3, 1), (4, 1), (5, 1), (6, 1)], true, false, 7, 104, [.sl 54 5, .sl 3 1, .sl 3 1, .c (.int .i64 0), .c (.int .i64 0), .c (.int .i64 0), .c (.int .i64 0)], none, [false, false, false, false, false, false, false], []⟩ := rfl
theorem tab_52 : tab 52 = some ⟨.slice 70, false, false, 1, 24, [.sl 70 2], none, [], []⟩ := rfl
theorem tab_53 : tab 53 = some ⟨.struct [(0, 1), (1, 1), (2, 1), (3, 1), (4, 1)], true, false, 5, 56, [.sl 70 2, .c (.int .i64 0), .c (.int .i64 0), .c (.int .i64 0), .c (.int .i64 0)], none, [false, false, false, false, false], []⟩ := rfl
theorem tab_54 : tab 54 = some ⟨.struct [(0, 1), (1, 1), (2, 1), (3, 1), (4, 1)], true, false, 5, 56, [.sl 70 2, .c (.int .i64 0), .c (.int .i64 0), .c (.int .i64 0), .c (.int .i64 0)], none, [false, false, false, false, false], []⟩ := rfl
theorem tab_55 : tab 55 = some ⟨.slice 39, false, false, 1, 24, [.sl 39 1], none, [], []⟩ := rfl
theorem tab_57 : tab 57 = some ⟨.func, false, false, 1, 8, [.c .nilf], none, [], []⟩ := rfl
theorem tab_58 : tab 58 = some ⟨.func, false, false, 1, 8, [.c .nilf], none, [], []⟩ := rfl
theorem tab_59 : tab 59 = some ⟨.func, false, false, 1, 8, [.c .nilf], none, [], []⟩ := rfl
theorem tab_60 : tab 60 = some ⟨.struct [(0, 1), (1, 1)], true, false, 2, 16, [.c (.int .i64 0), .c (.int .i64 0)], some [.i, .i], [false, false], []⟩ := rfl
theorem tab_61 : tab 61 = some ⟨.struct [(0, 1), (1, 1)], true, false, 2, 16, [.c (.int .i64 0), .c (.int .i64 0)], some [.i, .i], [false, false], []⟩ := rfl
theorem tab_62 : tab 62 = some ⟨.slice 61, false, false, 1, 24, [.sl 61 2], none, [], []⟩ := rfl
theorem tab_63 : tab 63 = some ⟨.struct [(0, 1), (1, 1)], true, false, 2, 32, [.c (.int .i64 0), .sl 61 2], none, [false, false], []⟩ := rfl
theorem tab_64 : tab 64 = some ⟨.struct [(0, 1), (1, 1)], true, false, 2, 32, [.c (.int .i64 0), .sl 61 2], none, [false, false], []⟩ := rfl
theorem tab_65 : tab 65 = some ⟨.slice 64, false, false, 1, 24, [.sl 64 2], none, [], []⟩ := rfl
theorem tab_66 : tab 66 = some ⟨.struct [(0, 2), (2, 1), (3, 1), (4, 1)], true, false, 5, 56, [.c (.int .i64 0), .c (.int .i64 0), .sl 64 2, .c (.int .i64 0), .c (.int .i64 0)], none, [true, false, false, false], []⟩ := rfl
theorem tab_67 : tab 67 = some ⟨.struct [(0, 2), (2, 1), (3, 1), (4, 1)], true, false, 5, 56, [.c (.int .i64 0), .c (.int .i64 0), .sl 64 2, .c (.int .i64 0), .c (.int .i64 0)], none, [true, false, false, false], []⟩ := rfl
theorem tab_68 : tab 68 = some ⟨.slice 72, false, false, 1, 24, [.sl 72 4], none, [], []⟩ := rfl
theorem tab_69 : tab 69 = some ⟨.struct [(0, 1), (1, 1)], true, false, 2, 16, [.c (.int .i64 0), .c (.int .i64 0)], some [.i, .i], [false, false], []⟩ := rfl
theorem tab_70 : tab 70 = some ⟨.struct [(0, 1), (1, 1)], true, false, 2, 16, [.c (.int .i64 0), .c (.int .i64 0)], some [.i, .i], [false, false], []⟩ := rfl
theorem tab_71 : tab 71 = some ⟨.struct [(0, 1), (1, 1), (2, 1), (3, 1)], true, false, 4, 32, [.c (.int .i64 0), .c (.int .i64 0), .c (.int .i64 0), .c (.int .i64 0)], some [.i, .i, .i, .i], [false, false, false, false], []⟩ := rfl
theorem tab_72 : tab 72 = some ⟨.struct [(0, 1), (1, 1), (2, 1), (3, 1)], true, false, 4, 32, [.c (.int .i64 0), .c (.int .i64 0), .c (.int .i64 0), .c (.int .i64 0)], some [.i, .i, .i, .i], [false, false, false, false], []⟩ := rfl
theorem tab_74 : tab 74 = some ⟨.func, false, false, 1, 8, [.c .nilf], none, [], []⟩ := rfl
theorem tab_75 : tab 75 = some ⟨.struct [(0, 1), (1, 2), (3, 2), (5, 1), (6, 1), (7, 1), (8, 1)], true, false, 9, 72, [.c (.int .i64 0), .c (.int .i64 0), .c (.int .i64 0), .c (.int .i64 0), .c (.int .i64 0), .c (.int .i64 0), .c (.int .i64 0), .c (.int .i64 0), .c (.int .i64 0)], some [.i, .i, .i, .i, .i, .i, .i, .i, .i], [false, true, true, false, false, false, false], []⟩ := rfl
theorem tab_76 : tab 76 = some ⟨.struct [(0, 1), (1, 2), (3, 2), (5, 1), (6, 1), (7, 1), (8, 1)], true, false, 9, 72, [.c (.int .i64 0), .c (.int .i64 0), .c (.int .i64 0), .c (.int .i64 0), .c (.int .i64 0), .c (.int .i64 0), .c (.int .i64 0), .c (.int .i64 0), .c (.int .i64 0)], some [.i, .i, .i, .i, .i, .i, .i, .i, .i], [false, true, true, false, false, false, false], []⟩ := rfl
theorem tab_78 : tab 78 = some ⟨.func, false, false, 1, 8, [.c .nilf], none, [], []⟩ := rfl
theorem tab_79 : tab 79 = some ⟨.func, false, false, 1, 8, [.c .nilf], none, [], []⟩ := rfl
theorem tab_80 : tab 80 = some ⟨.slice 93, false, false, 1, 24, [.sl 93 3], none, [], []⟩ := rfl
theorem tab_81 : tab 81 = some ⟨.struct [(0, 1), (1, 1), (2, 1)], true, false, 3, 40, [.sl 93 3, .c (.int .i64 0), .c (.int .i64 0)], none, [false, false, false], []⟩ := rfl
theorem tab_82 : tab 82 = some ⟨.struct [(0, 1), (1, 1), (2, 1)], true, false, 3, 40, [.sl 93 3, .c (.int .i64 0), .c (.int .i64 0)], none, [false, false, false], []⟩ := rfl
theorem tab_83 : tab 83 = some ⟨.slice 95, false, false, 1, 24, [.sl 95 3], none, [], []⟩ := rfl
theorem tab_84 : tab 84 = some ⟨.slice 5, false, false, 1, 24, [.sl 5 1], none, [], []⟩ := rfl
theorem tab_86 : tab 86 = some ⟨.func, false, false, 1, 8, [.c .nilf], none, [], []⟩ := rfl
theorem tab_88 : tab 88 = some ⟨.func, false, false, 1, 8, [.c .nilf], none, [], []⟩ := rfl
theorem tab_89 : tab 89 = some ⟨.func, false, false, 1, 8, [.c .nilf], none, [], []⟩ := rfl
theorem tab_90 : tab 90 = some ⟨.func, false, false, 1, 8, [.c .nilf], none, [], []⟩ := rfl
theorem tab_91 : tab 91 = some ⟨.func, false, false, 1, 8, [.c .nilf], none, [], []⟩ := rfl
theorem tab_92 : tab 92 = some ⟨.struct [(0, 1), (1, 1), (2, 1)], true, false, 3, 24, [.c (.int .i64 0), .c (.int .i64 0), .c (.int .i64 0)], some [.i, .i, .i], [false, false, false], []⟩ := rfl
theorem tab_93 : tab 93 = some ⟨.struct [(0, 1), (1, 1), (2, 1)], true, false, 3, 24, [.c (.int .i64 0), .c (.int .i64 0), .c (.int .i64 0)], some [.i, .i, .i], [false, false, false], []⟩ := rfl
theorem tab_94 : tab 94 = some ⟨.struct [(0, 1), (1, 1), (2, 1)], true, false, 3, 24, [.c (.int .i64 0), .c (.int .i64 0), .c (.int .i64 0)], some [.i, .i, .i], [false, false, false], []⟩ := rfl
theorem tab_95 : tab 95 = some ⟨.struct [(0, 1), (1, 1), (2, 1)], true, false, 3, 24, [.c (.int .i64 0), .c (.int .i64 0), .c (.int .i64 0)], some [.i, .i, .i], [false, false, false], []⟩ := rfl
theorem tab_96 : tab 96 = some ⟨.func, false, false, 1, 8, [.c .nilf], none, [], []⟩ := rfl
theorem tab_97 : tab 97 = some ⟨.func, false, false, 1, 8, [.c .nilf], none, [], []⟩ := rfl
theorem tab_98 : tab 98 = some ⟨.func, false, false, 1, 8, [.c .nilf], none, [], []⟩ := rfl
theorem tab_99 : tab 99 = some ⟨.slice 296, false, false, 1, 24, [.sl 296 7], none, [], []⟩ := rfl
theorem tab_101 : tab 101 = some ⟨.func, false, false, 1, 8, [.c .nilf], none, [], []⟩ := rfl
theorem tab_102 : tab 102 = some ⟨.func, false, false, 1, 8, [.c .nilf], none, [], []⟩ := rfl
theorem tab_103 : tab 103 = some ⟨.func, false, false, 1, 8, [.c .nilf], none, [], []⟩ := rfl
theorem tab_104 : tab 104 = some ⟨.struct [(0, 1)], true, false, 1, 8, [.c (.int .i64 0)], some [.i], [false], []⟩ := rfl
theorem tab_105 : tab 105 = some ⟨.struct [(0, 1)], true, false, 1, 8, [.c (.int .i64 0)], some [.i], [false], []⟩ := rfl
theorem tab_107 : tab 107 = some ⟨.func, false, false, 1, 8, [.c .nilf], none, [], []⟩ := rfl
theorem tab_108 : tab 108 = some ⟨.func, false, false, 1, 8, [.c .nilf], none, [], []⟩ := rfl
theorem tab_109 : tab 109 = some ⟨.func, false, false, 1, 8, [.c .nilf], none, [], []⟩ := rfl
theorem tab_110 : tab 110 = some ⟨.struct [(0, 1)], true, false, 1, 8, [.c (.int .i64 0)], some [.i], [false], []⟩ := rfl
theorem tab_111 : tab 111 = some ⟨.struct [(0, 1)], true, false, 1, 8, [.c (.int .i64 0)], some [.i], [false], []⟩ := rfl
theorem tab_112 : tab 112 = some ⟨.func, false, false, 1, 8, [.c .nilf], none, [], []⟩ := rfl
theorem tab_113 : tab 113 = some ⟨.func, false, false, 1, 8, [.c .nilf], none, [], []⟩ := rfl
theorem tab_114 : tab 114 = some ⟨.func, false, false, 1, 8, [.c .nilf], none, [], []⟩ := rfl
theorem tab_115 : tab 115 = some ⟨.map 122 124, false, false, 1, 8, [.c .any], none, [], []⟩ := rfl
theorem tab_116 : tab 116 = some ⟨.func, false, false, 1, 8, [.c .nilf], none, [], []⟩ := rfl
theorem tab_117 : tab 117 = some ⟨.array 3 3, true, false, 3, 24, [.c (.int .i64 0), .c (.int .i64 0), .c (.int .i64 0)], some [.i, .i, .i], [], []⟩ := rfl
theorem tab_118 : tab 118 = some ⟨.array 3 3, true, false, 3, 24, [.c (.int .i64 0), .c (.int .i64 0), .c (.int .i64 0)], some [.i, .i, .i], [], []⟩ := rfl
theorem tab_119 : tab 119 = some ⟨.struct [(0, 3), (3, 1), (4, 1)], true, false, 5, 40, [.c (.int .i64 0), .c (.int .i64 0), .c (.int .i64 0), .c (.int .i64 0), .c (.int .i64 0)], some [.i, .i, .i, .i, .i], [true, false, false], []⟩ := rfl
theorem tab_120 : tab 120 = some ⟨.struct [(0, 3), (3, 1), (4, 1)], true, false, 5, 40, [.c (.int .i64 0), .c (.int .i64 0), .c (.int .i64 0), .c (.int .i64 0), .c (.int .i64 0)], some [.i, .i, .i, .i, .i], [true, false, false], []⟩ := rfl
theorem tab_121 : tab 121 = some ⟨.struct [(0, 1), (1, 5)], true, false, 6, 48, [.c (.int .i64 0), .c (.int .i64 0), .c (.int .i64 0), .c (.int .i64 0), .c (.int .i64 0), .c (.int .i64 0)], some [.i, .i, .i, .i, .i, .i], [false, true], []⟩ := rfl
theorem tab_122 : tab 122 = some ⟨.struct [(0, 1), (1, 5)], true, false, 6, 48, [.c (.int .i64 0), .c (.int .i64 0), .c (.int .i64 0), .c (.int .i64 0), .c (.int .i64 0), .c (.int .i64 0)], some [.i, .i, .i, .i, .i, .i], [false, true], []⟩ := rfl
theorem tab_123 : tab 123 = some ⟨.struct [(0, 1), (1, 1), (2, 3)], true, false, 5, 40, [.c (.bool false), .c (.int .i64 0), .c (.int .i64 0), .c (.int .i64 0), .c (.int .i64 0)], some [.b, .i, .i, .i, .i], [false, false, true], []⟩ := rfl
theorem tab_124 : tab 124 = some ⟨.struct [(0, 1), (1, 1), (2, 3)], true, false, 5, 40, [.c (.bool false), .c (.int .i64 0), .c (.int .i64 0), .c (.int .i64 0), .c (.int .i64 0)], some [.b, .i, .i, .i, .i], [false, false, true], []⟩ := rfl
theorem tab_126 : tab 126 = some ⟨.func, false, false, 1, 8, [.c .nilf], none, [], []⟩ := rfl
theorem tab_127 : tab 127 = some ⟨.func, false, false, 1, 8, [.c .nilf], none, [], []⟩ := rfl
theorem tab_128 : tab 128 = some ⟨.func, false, false, 1, 8, [.c .nilf], none, [], []⟩ := rfl
theorem tab_129 : tab 129 = some ⟨.other, false, false, 1, 8, [.c .nilp], none, [], []⟩ := rfl
theorem tab_131 : tab 131 = some ⟨.func, false, false, 1, 8, [.c .nilf], none, [], []⟩ := rfl
theorem tab_132 : tab 132 = some ⟨.func, false, false, 1, 8, [.c .nilf], none, [], []⟩ := rfl
theorem tab_133 : tab 133 = some ⟨.func, false, false, 1, 8, [.c .nilf], none, [], []⟩ := rfl
theorem tab_135 : tab 135 = some ⟨.func, false, false, 1, 8, [.c .nilf], none, [], []⟩ := rfl
theorem tab_136 : tab 136 = some ⟨.func, false, false, 1, 8, [.c .nilf], none, [], []⟩ := rfl
theorem tab_137 : tab 137 = some ⟨.func, false, false, 1, 8, [.c .nilf], none, [], []⟩ := rfl
theorem tab_138 : tab 138 = some ⟨.slice 118, false, false, 1, 24, [.sl 118 3], none, [], []⟩ := rfl
theorem tab_140 : tab 140 = some ⟨.func, false, false, 1, 8, [.c .nilf], none, [], []⟩ := rfl
theorem tab_141 : tab 141 = some ⟨.struct [(0, 1), (1, 1), (2, 1)], true, false, 3, 24, [.c (.int .i64 0), .c (.int .i64 0), .c (.int .i64 0)], some [.i, .i, .i], [false, false, false], []⟩ := rfl
theorem tab_142 : tab 142 = some ⟨.struct [(0, 1), (1, 1), (2, 1)], true, false, 3, 24, [.c (.int .i64 0), .c (.int .i64 0), .c (.int .i64 0)], some [.i, .i, .i], [false, false, false], []⟩ := rfl
theorem tab_144 : tab 144 = some ⟨.func, false, false, 1, 8, [.c .nilf], none, [], []⟩ := rfl
theorem tab_145 : tab 145 = some ⟨.func, false, false, 1, 8, [.c .nilf], none, [], []⟩ := rfl
theorem tab_146 : tab 146 = some ⟨.func, false, false, 1, 8, [.c .nilf], none, [], []⟩ := rfl
theorem tab_147 : tab 147 = some ⟨.func, false, false, 1, 8, [.c .nilf], none, [], []⟩ := rfl
theorem tab_148 : tab 148 = some ⟨.struct [(0, 1)], true, false, 1, 8, [.c (.int .i64 0)], some [.i], [false], []⟩ := rfl
theorem tab_149 : tab 149 = some ⟨.struct [(0, 1)], true, false, 1, 8, [.c (.int .i64 0)], some [.i], [false], []⟩ := rfl
theorem tab_151 : tab 151 = some ⟨.other, false, false, 1, 8, [.c .nilp], none, [], []⟩ := rfl
theorem tab_152 : tab 152 = some ⟨.func, false, false, 1, 8, [.c .nilf], none, [], []⟩ := rfl
theorem tab_153 : tab 153 = some ⟨.func, false, false, 1, 8, [.c .nilf], none, [], []⟩ := rfl
theorem tab_154 : tab 154 = some ⟨.array 6 153, true, false, 6, 48, [.c .nilf, .c .nilf, .c .nilf, .c .nilf, .c .nilf, .c .nilf], none, [], []⟩ := rfl
theorem tab_155 : tab 155 = some ⟨.func, false, false, 1, 8, [.c .nilf], none, [], []⟩ := rfl
theorem tab_156 : tab 156 = some ⟨.struct [(0, 5), (5, 9)], true, false, 14, 128, [.c (.int .i64 0), .c (.int .i64 0), .sl 64 2, .c (.int .i64 0), .c (.int .i64 0), .c (.int .i64 0), .c (.int .i64 0), .c (.int .i64 0), .c (.int .i64 0), .c (.int .i64 0), .c (.int .i64 0), .c (.int .i64 0), .c (.int .i64 0), .c (.int .i64 0)], none, [true, true], []⟩ := rfl
theorem tab_157 : tab 157 = some ⟨.struct [(0, 5), (5, 9)], true, false, 14, 128, [.c (.int .i64 0), .c (.int .i64 0), .sl 64 2, .c (.int .i64 0), .c (.int .i64 0), .c (.int .i64 0), .c (.int .i64 0), .c (.int .i64 0), .c (.int .i64 0), .c (.int .i64 0), .c (.int .i64 0), .c (.int .i64 0), .c (.int .i64 0), .c (.int .i64 0)], none, [true, true], []⟩ := rfl
theorem tab_158 : tab 158 = some ⟨.array 12 3, true, false, 12, 96, [.c (.int .i64 0), .c (.int .i64 0), .c (.int .i64 0), .c (.int .i64 0), .c (.int .i64 0), .c (.int .i64 0), .c (.int .i64 0), .c (.int .i64 0), .c (.int .i64 0), .c (.int .i64 0), .c (.int .i64 0), .c (.int .i64 0)], some [.i, .i, .i, .i, .i, .i, .i, .i, .i, .i, .i, .i], [], []⟩ := rfl
theorem tab_159 : tab 159 = some ⟨.struct [(0, 1), (1, 12)], true, false, 13, 104, [.c (.int .i64 0), .c (.int .i64 0), .c (.int .i64 0), .c (.int .i64 0), .c (.int .i64 0), .c (.int .i64 0), .c (.int .i64 0), .c (.int .i64 0), .c (.int .i64 0), .c (.int .i64 0), .c (.int .i64 0), .c (.int .i64 0), .c (.int .i64 0)], some [.i, .i, .i, .i, .i, .i, .i, .i, .i, .i, .i, .i, .i], [false, true], []⟩ := rfl
theorem tab_160 : tab 160 = some ⟨.struct [(0, 1), (1, 12)], true, false, 13, 104, [.c (.int .i64 0), .c (.int .i64 0), .c (.int .i64 0), .c (.int .i64 0), .c (.int .i64 0), .c (.int .i64 0), .c (.int .i64 0), .c (.int .i64 0), .c (.int .i64 0), .c (.int .i64 0), .c (.int .i64 0), .c (.int .i64 0), .c (.int .i64 0)], some [.i, .i, .i, .i, .i, .i, .i, .i, .i, .i, .i, .i, .i], [false, true], []⟩ := rfl
theorem tab_161 : tab 161 = some ⟨.int .u64, false, false, 1, 8, [.c (.int .u64 0)], none, [], []⟩ := rfl
theorem tab_162 : tab 162 = some ⟨.struct [(0, 1)], true, false, 1, 24, [.sl 5 1], none, [false], []⟩ := rfl
theorem tab_163 : tab 163 = some ⟨.struct [(0, 1)], true, false, 1, 24, [.sl 5 1], none, [false], []⟩ := rfl
theorem tab_164 : tab 164 = some ⟨.struct [(0, 1), (1, 1)], true, false, 2, 32, [.sl 5 1, .c (.int .i64 0)], none, [true, false], []⟩ := rfl
theorem tab_165 : tab 165 = some ⟨.struct [(0, 1), (1, 1)], true, false, 2, 32, [.sl 5 1, .c (.int .i64 0)], none, [true, false], []⟩ := rfl
theorem tab_166 : tab 166 = some ⟨.func, false, false, 1, 8, [.c .nilf], none, [], []⟩ := rfl
theorem tab_167 : tab 167 = some ⟨.func, false, false, 1, 8, [.c .nilf], none, [], []⟩ := rfl
theorem tab_168 : tab 168 = some ⟨.int .u64, false, false, 1, 8, [.c (.int .u64 0)], none, [], []⟩ := rfl
theorem tab_169 : tab 169 = some ⟨.func, false, false, 1, 8, [.c .nilf], none, [], []⟩ := rfl
theorem tab_170 : tab 170 = some ⟨.func, false, false, 1, 8, [.c .nilf], none, [], []⟩ := rfl
theorem tab_171 : tab 171 = some ⟨.func, false, false, 1, 8, [.c .nilf], none, [], []⟩ := rfl
theorem tab_172 : tab 172 = some ⟨.func, false, false, 1, 8, [.c .nilf], none, [], []⟩ := rfl
theorem tab_173 : tab 173 = some ⟨.func, false, false, 1, 8, [.c .nilf], none, [], []⟩ := rfl
theorem tab_174 : tab 174 = some ⟨.struct [(0, 1), (1, 1)], true, false, 2, 32, [.sl 5 1, .c (.int .i64 0)], none, [true, false], []⟩ := rfl
theorem tab_175 : tab 175 = some ⟨.struct [(0, 1), (1, 1)], true, false, 2, 32, [.sl 5 1, .c (.int .i64 0)], none, [true, false], []⟩ := rfl
theorem tab_176 : tab 176 = some ⟨.func, false, false, 1, 8, [.c .nilf], none, [], []⟩ := rfl
theorem tab_177 : tab 177 = some ⟨.func, false, false, 1, 8, [.c .nilf], none, [], []⟩ := rfl
theorem tab_178 : tab 178 = some ⟨.func, false, false, 1, 8, [.c .nilf], none, [], []⟩ := rfl
theorem tab_179 : tab 179 = some ⟨.struct [(0, 1)], true, false, 1, 8, [.c (.int .i64 0)], some [.i], [false], []⟩ := rfl
theorem tab_180 : tab 180 = some ⟨.struct [(0, 1)], true, false, 1, 8, [.c (.int .i64 0)], some [.i], [false], []⟩ := rfl
theorem tab_182 : tab 182 = some ⟨.func, false, false, 1, 8, [.c .nilf], none, [], []⟩ := rfl
theorem tab_183 : tab 183 = some ⟨.func, false, false, 1, 8, [.c .nilf], none, [], []⟩ := rfl
theorem tab_184 : tab 184 = some ⟨.func, false, false, 1, 8, [.c .nilf], none, [], []⟩ := rfl
theorem tab_185 : tab 185 = some ⟨.func, false, false, 1, 8, [.c .nilf], none, [], []⟩ := rfl
theorem tab_186 : tab 186 = some ⟨.func, false, false, 1, 8, [.c .nilf], none, [], []⟩ := rfl
theorem tab_188 : tab 188 = some ⟨.func, false, false, 1, 8, [.c .nilf], none, [], []⟩ := rfl
theorem tab_189 : tab 189 = some ⟨.other, false, false, 1, 8, [.c .nilp], none, [], []⟩ := rfl
theorem tab_191 : tab 191 = some ⟨.func, false, false, 1, 8, [.c .nilf], none, [], []⟩ := rfl
theorem tab_192 : tab 192 = some ⟨.struct [(0, 6), (6, 1)], true, false, 7, 72, [.c (.int .i64 0), .c (.int .i64 0), .c (.int .i64 0), .c (.int .i64 0), .c (.int .i64 0), .c (.int .i64 0), .sl 296 7], none, [true, false], []⟩ := rfl
theorem tab_193 : tab 193 = some ⟨.struct [(0, 6), (6, 1)], true, false, 7, 72, [.c (.int .i64 0), .c (.int .i64 0), .c (.int .i64 0), .c (.int .i64 0), .c (.int .i64 0), .c (.int .i64 0), .sl 296 7], none, [true, false], []⟩ := rfl
theorem tab_194 : tab 194 = some ⟨.func, false, false, 1, 8, [.c .nilf], none, [], []⟩ := rfl
theorem tab_195 : tab 195 = some ⟨.func, false, false, 1, 8, [.c .nilf], none, [], []⟩ := rfl
theorem tab_196 : tab 196 = some ⟨.func, false, false, 1, 8, [.c .nilf], none, [], []⟩ := rfl
theorem tab_197 : tab 197 = some ⟨.func, false, false, 1, 8, [.c .nilf], none, [], []⟩ := rfl
theorem tab_198 : tab 198 = some ⟨.other, false, false, 1, 8, [.c .nilp], none, [], []⟩ := rfl
theorem tab_199 : tab 199 = some ⟨.func, false, false, 1, 8, [.c .nilf], none, [], []⟩ := rfl
theorem tab_200 : tab 200 = some ⟨.func, false, false, 1, 8, [.c .nilf], none, [], []⟩ := rfl
theorem tab_201 : tab 201 = some ⟨.struct [(0, 1)], true, false, 1, 8, [.c (.int .i64 0)], some [.i], [false], []⟩ := rfl
theorem tab_202 : tab 202 = some ⟨.struct [(0, 1)], true, false, 1, 8, [.c (.int .i64 0)], some [.i], [false], []⟩ := rfl
theorem tab_204 : tab 204 = some ⟨.func, false, false, 1, 8, [.c .nilf], none, [], []⟩ := rfl
theorem tab_205 : tab 205 = some ⟨.func, false, false, 1, 8, [.c .nilf], none, [], []⟩ := rfl
theorem tab_206 : tab 206 = some ⟨.func, false, false, 1, 8, [.c .nilf], none, [], []⟩ := rfl
theorem tab_207 : tab 207 = some ⟨.func, false, false, 1, 8, [.c .nilf], none, [], []⟩ := rfl
theorem tab_208 : tab 208 = some ⟨.other, false, false, 1, 8, [.c .nilp], none, [], []⟩ := rfl
theorem tab_209 : tab 209 = some ⟨.other, false, false, 1, 8, [.c .nilp], none, [], []⟩ := rfl
theorem tab_210 : tab 210 = some ⟨.struct [], true, false, 0, 0, [], some [], [], []⟩ := rfl
theorem tab_211 : tab 211 = some ⟨.struct [], true, false, 0, 0, [], some [], [], []⟩ := rfl
theorem tab_213 : tab 213 = some ⟨.other, false, false, 1, 8, [.c .nilp], none, [], []⟩ := rfl
theorem tab_214 : tab 214 = some ⟨.func, false, false, 1, 8, [.c .nilf], none, [], []⟩ := rfl
theorem tab_215 : tab 215 = some ⟨.func, false, false, 1, 8, [.c .nilf], none, [], []⟩ := rfl
theorem tab_216 : tab 216 = some ⟨.func, false, false, 1, 8, [.c .nilf], none, [], []⟩ := rfl
theorem tab_217 : tab 217 = some ⟨.func, false, false, 1, 8, [.c .nilf], none, [], []⟩ := rfl
theorem tab_218 : tab 218 = some ⟨.struct [(0, 1)], true, false, 1, 8, [.c (.int .i64 0)], some [.i], [false], []⟩ := rfl
theorem tab_219 : tab 219 = some ⟨.struct [(0, 1)], true, false, 1, 8, [.c (.int .i64 0)], some [.i], [false], []⟩ := rfl
theorem tab_221 : tab 221 = some ⟨.other, false, true, 1, 16, [.c .nili], none, [], []⟩ := rfl
theorem tab_222 : tab 222 = some ⟨.other, false, true, 1, 16, [.c .nili], none, [], []⟩ := rfl
theorem tab_223 : tab 223 = some ⟨.func, false, false, 1, 8, [.c .nilf], none, [], []⟩ := rfl
theorem tab_224 : tab 224 = some ⟨.func, false, false, 1, 8, [.c .nilf], none, [], []⟩ := rfl
theorem tab_225 : tab 225 = some ⟨.func, false, false, 1, 8, [.c .nilf], none, [], []⟩ := rfl
theorem tab_226 : tab 226 = some ⟨.func, false, false, 1, 8, [.c .nilf], none, [], []⟩ := rfl
theorem tab_227 : tab 227 = some ⟨.func, false, false, 1, 8, [.c .nilf], none, [], []⟩ := rfl
theorem tab_228 : tab 228 = some ⟨.func, false, false, 1, 8, [.c .nilf], none, [], []⟩ := rfl
theorem tab_229 : tab 229 = some ⟨.func, false, false, 1, 8, [.c .nilf], none, [], []⟩ := rfl
theorem tab_230 : tab 230 = some ⟨.func, false, false, 1, 8, [.c .nilf], none, [], []⟩ := rfl
theorem tab_231 : tab 231 = some ⟨.func, false, false, 1, 8, [.c .nilf], none, [], []⟩ := rfl
theorem tab_232 : tab 232 = some ⟨.func, false, false, 1, 8, [.c .nilf], none, [], []⟩ := rfl
theorem tab_233 : tab 233 = some ⟨.func, false, false, 1, 8, [.c .nilf], none, [], []⟩ := rfl
theorem tab_234 : tab 234 = some ⟨.func, false, false, 1, 8, [.c .nilf], none, [], []⟩ := rfl
theorem tab_235 : tab 235 = some ⟨.func, false, false, 1, 8, [.c .nilf], none, [], []⟩ := rfl
theorem tab_236 : tab 236 = some ⟨.func, false, false, 1, 8, [.c .nilf], none, [], []⟩ := rfl
theorem tab_237 : tab 237 = some ⟨.other, false, false, 1, 8, [.c .nilp], none, [], []⟩ := rfl
theorem tab_238 : tab 238 = some ⟨.other, false, false, 1, 8, [.c .nilp], none, [], []⟩ := rfl
theorem tab_239 : tab 239 = some ⟨.func, false, false, 1, 8, [.c .nilf], none, [], []⟩ := rfl
theorem tab_240 : tab 240 = some ⟨.func, false, false, 1, 8, [.c .nilf], none, [], []⟩ := rfl
theorem tab_241 : tab 241 = some ⟨.func, false, false, 1, 8, [.c .nilf], none, [], []⟩ := rfl
theorem tab_242 : tab 242 = some ⟨.func, false, false, 1, 8, [.c .nilf], none, [], []⟩ := rfl
theorem tab_243 : tab 243 = some ⟨.func, false, false, 1, 8, [.c .nilf], none, [], []⟩ := rfl
theorem tab_244 : tab 244 = some ⟨.func, false, false, 1, 8, [.c .nilf], none, [], []⟩ := rfl
theorem tab_245 : tab 245 = some ⟨.func, false, false, 1, 8, [.c .nilf], none, [], []⟩ := rfl
theorem tab_246 : tab 246 = some ⟨.func, false, false, 1, 8, [.c .nilf], none, [], []⟩ := rfl
theorem tab_247 : tab 247 = some ⟨.struct [(0, 1)], true, false, 1, 8, [.c (.int .i64 0)], some [.i], [false], []⟩ := rfl
theorem tab_248 : tab 248 = some ⟨.struct [(0, 1)], true, false, 1, 8, [.c (.int .i64 0)], some [.i], [false], [("icehall/gear.do", 182)]⟩ := rfl
theorem tab_249 : tab 249 = some ⟨.struct [(0, 1), (1, 1)], true, false, 2, 16, [.c (.int .i64 0), .c (.int .i64 0)], some [.i, .i], [false, false], []⟩ := rfl
theorem tab_250 : tab 250 = some ⟨.struct [(0, 1), (1, 1)], true, false, 2, 16, [.c (.int .i64 0), .c (.int .i64 0)], some [.i, .i], [false, false], [("icehall/gear.do", 184)]⟩ := rfl
theorem tab_251 : tab 251 = some ⟨.struct [(0, 1)], true, false, 1, 8, [.c (.int .i64 0)], some [.i], [false], []⟩ := rfl
theorem tab_252 : tab 252 = some ⟨.struct [(0, 1)], true, false, 1, 8, [.c (.int .i64 0)], some [.i], [false], [("icehall/gear.do", 190)]⟩ := rfl
theorem tab_253 : tab 253 = some ⟨.struct [(0, 1)], true, false, 1, 8, [.c (.int .i64 0)], some [.i], [false], [("icehall/gear.do", 191)]⟩ := rfl
theorem tab_254 : tab 254 = some ⟨.struct [(0, 1)], true, false, 1, 8, [.c (.int .i64 0)], some [.i], [false], [("icehall/gear.do", 192)]⟩ := rfl
theorem tab_255 : tab 255 = some ⟨.func, false, false, 1, 8, [.c .nilf], none, [], []⟩ := rfl
theorem tab_256 : tab 256 = some ⟨.func, false, false, 1, 8, [.c .nilf], none, [], []⟩ := rfl
theorem tab_257 : tab 257 = some ⟨.func, false, false, 1, 8, [.c .nilf], none, [], []⟩ := rfl
theorem tab_258 : tab 258 = some ⟨.func, false, false, 1, 8, [.c .nilf], none, [], []⟩ := rfl
theorem tab_259 : tab 259 = some ⟨.func, false, false, 1, 8, [.c .nilf], none, [], []⟩ := rfl
theorem tab_260 : tab 260 = some ⟨.func, false, false, 1, 8, [.c .nilf], none, [], []⟩ := rfl
theorem tab_261 : tab 261 = some ⟨.func, false, false, 1, 8, [.c .nilf], none, [], []⟩ := rfl
theorem tab_262 : tab 262 = some ⟨.func, false, false, 1, 8, [.c .nilf], none, [], []⟩ := rfl
theorem tab_263 : tab 263 = some ⟨.func, false, false, 1, 8, [.c .nilf], none, [], []⟩ := rfl
theorem tab_264 : tab 264 = some ⟨.int .i64, false, false, 1, 8, [.c (.int .i64 0)], none, [], []⟩ := rfl
theorem tab_266 : tab 266 = some ⟨.func, false, false, 1, 8, [.c .nilf], none, [], []⟩ := rfl
theorem tab_267 : tab 267 = some ⟨.func, false, false, 1, 8, [.c .nilf], none, [], []⟩ := rfl
theorem tab_268 : tab 268 = some ⟨.func, false, false, 1, 8, [.c .nilf], none, [], []⟩ := rfl
theorem tab_270 : tab 270 = some ⟨.func, false, false, 1, 8, [.c .nilf], none, [], []⟩ := rfl
theorem tab_271 : tab 271 = some ⟨.func, false, false, 1, 8, [.c .nilf], none, [], []⟩ := rfl
theorem tab_272 : tab 272 = some ⟨.int .u32, false, false, 1, 4, [.c (.int .u32 0)], none, [], []⟩ := rfl
theorem tab_273 : tab 273 = some ⟨.int .u64, false, false, 1, 8, [.c (.int .u64 0)], none, [], []⟩ := rfl
theorem tab_274 : tab 274 = some ⟨.func, false, false, 1, 8, [.c .nilf], none, [], []⟩ := rfl
theorem tab_275 : tab 275 = some ⟨.func, false, false, 1, 8, [.c .nilf], none, [], []⟩ := rfl
theorem tab_276 : tab 276 = some ⟨.other, false, false, 1, 8, [.c .nilp], none, [], []⟩ := rfl
theorem tab_277 : tab 277 = some ⟨.func, false, false, 1, 8, [.c .nilf], none, [], []⟩ := rfl
theorem tab_278 : tab 278 = some ⟨.other, false, false, 1, 8, [.c .nilp], none, [], []⟩ := rfl
theorem tab_279 : tab 279 = some ⟨.func, false, false, 1, 8, [.c .nilf], none, [], []⟩ := rfl
theorem tab_280 : tab 280 = some ⟨.func, false, false, 1, 8, [.c .nilf], none, [], []⟩ := rfl
theorem tab_281 : tab 281 = some ⟨.struct [(0, 1), (1, 1), (2, 1), (3, 1)], true, false, 4, 40, [.c .nilp, .c .nilp, .c .nilp, .c (.str ⟨#[]⟩)], none, [false, false, false, false], []⟩ := rfl
theorem tab_282 : tab 282 = some ⟨.struct [(0, 1), (1, 1), (2, 1), (3, 1)], true, false, 4, 40, [.c .nilp, .c .nilp, .c .nilp, .c (.str ⟨#[]⟩)], none, [false, false, false, false], []⟩ := rfl
theorem tab_283 : tab 283 = some ⟨.array 0 16, true, false, 0, 0, [], none, [], []⟩ := rfl
theorem tab_286 : tab 286 = some ⟨.func, false, false, 1, 8, [.c .nilf], none, [], []⟩ := rfl
theorem tab_287 : tab 287 = some ⟨.int .u8, false, false, 1, 1, [.c (.int .u8 0)], none, [], []⟩ := rfl
theorem tab_288 : tab 288 = some ⟨.int .u8, false, false, 1, 1, [.c (.int .u8 0)], none, [], []⟩ := rfl
theorem tab_289 : tab 289 = some ⟨.func, false, false, 1, 8, [.c .nilf], none, [], []⟩ := rfl
theorem tab_290 : tab 290 = some ⟨.other, false, false, 1, 8, [.c .nilp], none, [], []⟩ := rfl
theorem tab_291 : tab 291 = some ⟨.int .i32, false, false, 1, 4, [.c (.int .i32 0)], none, [], []⟩ := rfl
theorem tab_292 : tab 292 = some ⟨.int .i32, false, false, 1, 4, [.c (.int .i32 0)], none, [], []⟩ := rfl
theorem tab_293 : tab 293 = some ⟨.struct [(0, 1), (1, 1), (2, 1), (3, 1), (4, 1), (5, 1), (6, 1), (7, 1), (8, 1), (9, 1), (10, 1)], true, false, 11, 48, [.c (.int .u64 0), .c (.int .u64 0), .c (.int .u32 0), .c (.int .u8 0), .c (.int .u8 0), .c (.int .u8 0), .c (.int .u8 0), .c .nilf, .c .nilp, .c (.int .i32 0), .c (.int .i32 0)], none, [false, false, false, false, false, false, false, false, false, false, false], []⟩ := rfl
theorem tab_294 : tab 294 = some ⟨.struct [(0, 1), (1, 1), (2, 1), (3, 1), (4, 1), (5, 1), (6, 1), (7, 1), (8, 1), (9, 1), (10, 1)], true, false, 11, 48, [.c (.int .u64 0), .c (.int .u64 0), .c (.int .u32 0), .c (.int .u8 0), .c (.int .u8 0), .c (.int .u8 0), .c (.int .u8 0), .c .nilf, .c .nilp, .c (.int .i32 0), .c (.int .i32 0)], none, [false, false, false, false, false, false, false, false, false, false, false], []⟩ := rfl
theorem tab_295 : tab 295 = some ⟨.struct [(0, 1), (1, 2), (3, 1), (4, 1), (5, 1), (6, 1)], true, false, 7, 56, [.c (.int .i64 0), .c (.int .i64 0), .c (.int .i64 0), .c (.int .i64 0), .c (.int .i64 0), .c (.int .i64 0), .c (.bool false)], some [.i, .i, .i, .i, .i, .i, .b], [false, true, false, false, false, false], []⟩ := rfl
theorem tab_296 : tab 296 = some ⟨.struct [(0, 1), (1, 2), (3, 1), (4, 1), (5, 1), (6, 1)], true, false, 7, 56, [.c (.int .i64 0), .c (.int .i64 0), .c (.int .i64 0), .c (.int .i64 0), .c (.int .i64 0), .c (.int .i64 0), .c (.bool false)], some [.i, .i, .i, .i, .i, .i, .b], [false, true, false, false, false, false], []⟩ := rfl
theorem tab_297 : tab 297 = some ⟨.func, false, false, 1, 8, [.c .nilf], none, [], []⟩ := rfl
theorem tab_298 : tab 298 = some ⟨.func, false, false, 1, 8, [.c .nilf], none, [], []⟩ := rfl
theorem tab_299 : tab 299 = some ⟨.other, false, false, 1, 8, [.c .nilp], none, [], []⟩ := rfl
theorem tab_300 : tab 300 = some ⟨.func, false, false, 1, 8, [.c .nilf], none, [], []⟩ := rfl
theorem tab_301 : tab 301 = some ⟨.func, false, false, 1, 8, [.c .nilf], none, [], []⟩ := rfl
theorem tab_302 : tab 302 = some ⟨.func, false, false, 1, 8, [.c .nilf], none, [], []⟩ := rfl
theorem tab_303 : tab 303 = some ⟨.func, false, false, 1, 8, [.c .nilf], none, [], []⟩ := rfl
theorem tab_304 : tab 304 = some ⟨.other, false, false, 1, 8, [.c .nilp], none, [], []⟩ := rfl
theorem tab_305 : tab 305 = some ⟨.func, false, false, 1, 8, [.c .nilf], none, [], []⟩ := rfl
theorem tab_306 : tab 306 = some ⟨.func, false, false, 1, 8, [.c .nilf], none, [], []⟩ := rfl
theorem fn_3 : Try.prog.funcs[3]? = some Try.f3 := rfl
theorem fn_4 : Try.prog.funcs[4]? = some Try.f4 := rfl
theorem fn_5 : Try.prog.funcs[5]? = some Try.f5 := rfl
theorem fn_6 : Try.prog.funcs[6]? = some Try.f6 := rfl
theorem fn_7 : Try.prog.funcs[7]? = some Try.f7 := rfl
theorem fn_8 : Try.prog.funcs[8]? = some Try.f8 := rfl
theorem fn_9 : Try.prog.funcs[9]? = some Try.f9 := rfl
theorem fn_10 : Try.prog.funcs[10]? = some Try.f10 := rfl
theorem fn_11 : Try.prog.funcs[11]? = some Try.f11 := rfl
theorem fn_12 : Try.prog.funcs[12]? = some Try.f12 := rfl
theorem fn_13 : Try.prog.funcs[13]? = some Try.f13 := rfl
theorem fn_14 : Try.prog.funcs[14]? = some Try.f14 := rfl
theorem fn_15 : Try.prog.funcs[15]? = some Try.f15 := rfl
theorem fn_16 : Try.prog.funcs[16]? = some Try.f16 := rfl
theorem fn_17 : Try.prog.funcs[17]? = some Try.f17 := rfl
theorem fn_18 : Try.prog.funcs[18]? = some Try.f18 := rfl
theorem fn_19 : Try.prog.funcs[19]? = some Try.f19 := rfl
theorem fn_20 : Try.prog.funcs[20]? = some Try.f20 := rfl
theorem fn_21 : Try.prog.funcs[21]? = some Try.f21 := rfl
theorem fn_22 : Try.prog.funcs[22]? = some Try.f22 := rfl
theorem fn_23 : Try.prog.funcs[23]? = some Try.f23 := rfl
theorem fn_24 : Try.prog.funcs[24]? = some Try.f24 := rfl
theorem fn_25 : Try.prog.funcs[25]? = some Try.f25 := rfl
theorem fn_26 : Try.prog.funcs[26]? = some Try.f26 := rfl
theorem fn_27 : Try.prog.funcs[27]? = some Try.f27 := rfl
theorem fn_28 : Try.prog.funcs[28]? = some Try.f28 := rfl
theorem fn_29 : Try.prog.funcs[29]? = some Try.f29 := rfl
theorem fn_30 : Try.prog.funcs[30]? = some Try.f30 := rfl
theorem fn_31 : Try.prog.funcs[31]? = some Try.f31 := rfl
theorem fn_32 : Try.prog.funcs[32]? = some Try.f32 := rfl
theorem fn_33 : Try.prog.funcs[33]? = some Try.f33 := rfl
theorem fn_34 : Try.prog.funcs[34]? = some Try.f34 := rfl
theorem fn_35 : Try.prog.funcs[35]? = some Try.f35 := rfl
theorem fn_36 : Try.prog.funcs[36]? = some Try.f36 := rfl
theorem fn_37 : Try.prog.funcs[37]? = some Try.f37 := rfl
theorem fn_38 : Try.prog.funcs[38]? = some Try.f38 := rfl
theorem fn_39 : Try.prog.funcs[39]? = some Try.f39 := rfl
theorem fn_40 : Try.prog.funcs[40]? = some Try.f40 := rfl
theorem fn_41 : Try.prog.funcs[41]? = some Try.f41 := rfl
theorem fn_42 : Try.prog.funcs[42]? = some Try.f42 := rfl
theorem fn_43 : Try.prog.funcs[43]? = some Try.f43 := rfl
theorem fn_44 : Try.prog.funcs[44]? = some Try.f44 := rfl
theorem fn_45 : Try.prog.funcs[45]? = some Try.f45 := rfl
theorem fn_46 : Try.prog.funcs[46]? = some Try.f46 := rfl
theorem fn_47 : Try.prog.funcs[47]? = some Try.f47 := rfl
theorem fn_48 : Try.prog.funcs[48]? = some Try.f48 := rfl
theorem fn_49 : Try.prog.funcs[49]? = some Try.f49 := rfl
theorem fn_50 : Try.prog.funcs[50]? = some Try.f50 := rfl
theorem fn_51 : Try.prog.funcs[51]? = some Try.f51 := rfl
theorem fn_52 : Try.prog.funcs[52]? = some Try.f52 := rfl
theorem fn_53 : Try.prog.funcs[53]? = some Try.f53 := rfl
theorem fn_54 : Try.prog.funcs[54]? = some Try.f54 := rfl
theorem fn_55 : Try.prog.funcs[55]? = some Try.f55 := rfl
theorem fn_56 : Try.prog.funcs[56]? = some Try.f56 := rfl
theorem fn_57 : Try.prog.funcs[57]? = some Try.f57 := rfl
theorem fn_58 : Try.prog.funcs[58]? = some Try.f58 := rfl
theorem fn_59 : Try.prog.funcs[59]? = some Try.f59 := rfl
theorem fn_60 : Try.prog.funcs[60]? = some Try.f60 := rfl
theorem fn_61 : Try.prog.funcs[61]? = some Try.f61 := rfl
theorem fn_62 : Try.prog.funcs[62]? = some Try.f62 := rfl
theorem fn_63 : Try.prog.funcs[63]? = some Try.f63 := rfl
theorem fn_64 : Try.prog.funcs[64]? = some Try.f64 := rfl
theorem fn_65 : Try.prog.funcs[65]? = some Try.f65 := rfl
theorem fn_66 : Try.prog.funcs[66]? = some Try.f66 := rfl
theorem fn_67 : Try.prog.funcs[67]? = some Try.f67 := rfl
theorem fn_68 : Try.prog.funcs[68]? = some Try.f68 := rfl
theorem fn_69 : Try.prog.funcs[69]? = some Try.f69 := rfl
theorem fn_70 : Try.prog.funcs[70]? = some Try.f70 := rfl
theorem fn_71 : Try.prog.funcs[71]? = some Try.f71 := rfl
theorem fn_72 : Try.prog.funcs[72]? = some Try.f72 := rfl
theorem fn_73 : Try.prog.funcs[73]? = some Try.f73 := rfl
theorem fn_74 : Try.prog.funcs[74]? = some Try.f74 := rfl
theorem fn_75 : Try.prog.funcs[75]? = some Try.f75 := rfl
theorem fn_76 : Try.prog.funcs[76]? = some Try.f76 := rfl
theorem fn_77 : Try.prog.funcs[77]? = some Try.f77 := rfl
theorem fn_78 : Try.prog.funcs[78]? = some Try.f78 := rfl
theorem fn_79 : Try.prog.funcs[79]? = some Try.f79 := rfl
theorem fn_80 : Try.prog.funcs[80]? = some Try.f80 := rfl
theorem fn_81 : Try.prog.funcs[81]? = some Try.f81 := rfl
theorem fn_82 : Try.prog.funcs[82]? = some Try.f82 := rfl
theorem fn_83 : Try.prog.funcs[83]? = some Try.f83 := rfl
theorem fn_84 : Try.prog.funcs[84]? = some Try.f84 := rfl
theorem fn_85 : Try.prog.funcs[85]? = some Try.f85 := rfl
theorem fn_86 : Try.prog.funcs[86]? = some Try.f86 := rfl
theorem fn_87 : Try.prog.funcs[87]? = some Try.f87 := rfl
theorem fn_88 : Try.prog.funcs[88]? = some Try.f88 := rfl
theorem fn_89 : Try.prog.funcs[89]? = some Try.f89 := rfl
theorem fn_90 : Try.prog.funcs[90]? = some Try.f90 := rfl
theorem fn_91 : Try.prog.funcs[91]? = some Try.f91 := rfl
theorem fn_92 : Try.prog.funcs[92]? = some Try.f92 := rfl
theorem fn_93 : Try.prog.funcs[93]? = some Try.f93 := rfl
theorem fn_94 : Try.prog.funcs[94]? = some Try.f94 := rfl
theorem fn_95 : Try.prog.funcs[95]? = some Try.f95 := rfl
theorem fn_96 : Try.prog.funcs[96]? = some Try.f96 := rfl
theorem fn_97 : Try.prog.funcs[97]? = some Try.f97 := rfl
theorem fn_98 : Try.prog.funcs[98]? = some Try.f98 := rfl
theorem fn_99 : Try.prog.funcs[99]? = some Try.f99 := rfl
theorem fn_100 : Try.prog.funcs[100]? = some Try.f100 := rfl
theorem fn_101 : Try.prog.funcs[101]? = some Try.f101 := rfl
theorem fn_102 : Try.prog.funcs[102]? = some Try.f102 := rfl
theorem fn_103 : Try.prog.funcs[103]? = some Try.f103 := rfl
theorem fn_104 : Try.prog.funcs[104]? = some Try.f104 := rfl
theorem fn_105 : Try.prog.funcs[105]? = some Try.f105 := rfl
theorem fn_106 : Try.prog.funcs[106]? = some Try.f106 := rfl
theorem fn_107 : Try.prog.funcs[107]? = some Try.f107 := rfl
theorem fn_108 : Try.prog.funcs[108]? = some Try.f108 := rfl
theorem fn_109 : Try.prog.funcs[109]? = some Try.f109 := rfl
theorem fn_110 : Try.prog.funcs[110]? = some Try.f110 := rfl
theorem fn_111 : Try.prog.funcs[111]? = some Try.f111 := rfl
theorem fn_112 : Try.prog.funcs[112]? = some Try.f112 := rfl
theorem fn_113 : Try.prog.funcs[113]? = some Try.f113 := rfl
theorem fn_114 : Try.prog.funcs[114]? = some Try.f114 := rfl
theorem fn_115 : Try.prog.funcs[115]? = some Try.f115 := rfl
theorem fn_116 : Try.prog.funcs[116]? = some Try.f116 := rfl
theorem fn_117 : Try.prog.funcs[117]? = some Try.f117 := rfl
theorem fn_118 : Try.prog.funcs[118]? = some Try.f118 := rfl
theorem fn_119 : Try.prog.funcs[119]? = some Try.f119 := rfl
theorem fn_120 : Try.prog.funcs[120]? = some Try.f120 := rfl
theorem fn_121 : Try.prog.funcs[121]? = some Try.f121 := rfl
theorem fn_122 : Try.prog.funcs[122]? = some Try.f122 := rfl
theorem fn_123 : Try.prog.funcs[123]? = some Try.f123 := rfl
theorem fn_124 : Try.prog.funcs[124]? = some Try.f124 := rfl
theorem fn_125 : Try.prog.funcs[125]? = some Try.f125 := rfl
theorem fn_126 : Try.prog.funcs[126]? = some Try.f126 := rfl
theorem fn_127 : Try.prog.funcs[127]? = some Try.f127 := rfl
theorem fn_128 : Try.prog.funcs[128]? = some Try.f128 := rfl
theorem fn_129 : Try.prog.funcs[129]? = some Try.f129 := rfl
theorem fn_130 : Try.prog.funcs[130]? = some Try.f130 := rfl
theorem fn_131 : Try.prog.funcs[131]? = some Try.f131 := rfl
theorem fn_132 : Try.prog.funcs[132]? = some Try.f132 := rfl
theorem fn_133 : Try.prog.funcs[133]? = some Try.f133 := rfl
theorem fn_134 : Try.prog.funcs[134]? = some Try.f134 := rfl
theorem fn_135 : Try.prog.funcs[135]? = some Try.f135 := rfl
theorem fn_136 : Try.prog.funcs[136]? = some Try.f136 := rfl
theorem fn_137 : Try.prog.funcs[137]? = some Try.f137 := rfl
theorem fn_138 : Try.prog.funcs[138]? = some Try.f138 := rfl
theorem fn_139 : Try.prog.funcs[139]? = some Try.f139 := rfl
theorem fn_140 : Try.prog.funcs[140]? = some Try.f140 := rfl
theorem fn_141 : Try.prog.funcs[141]? = some Try.f141 := rfl
theorem fn_142 : Try.prog.funcs[142]? = some Try.f142 := rfl
theorem fn_143 : Try.prog.funcs[143]? = some Try.f143 := rfl
theorem fn_144 : Try.prog.funcs[144]? = some Try.f144 := rfl
theorem fn_145 : Try.prog.funcs[145]? = some Try.f145 := rfl
theorem fn_146 : Try.prog.funcs[146]? = some Try.f146 := rfl
theorem fn_147 : Try.prog.funcs[147]? = some Try.f147 := rfl
theorem fn_148 : Try.prog.funcs[148]? = some Try.f148 := rfl
theorem fn_149 : Try.prog.funcs[149]? = some Try.f149 := rfl
theorem fn_150 : Try.prog.funcs[150]? = some Try.f150 := rfl
theorem fn_151 : Try.prog.funcs[151]? = some Try.f151 := rfl
theorem fn_152 : Try.prog.funcs[152]? = some Try.f152 := rfl
theorem fn_153 : Try.prog.funcs[153]? = some Try.f153 := rfl
theorem fn_154 : Try.prog.funcs[154]? = some Try.f154 := rfl
theorem fn_155 : Try.prog.funcs[155]? = some Try.f155 := rfl
theorem fn_156 : Try.prog.funcs[156]? = some Try.f156 := rfl
theorem fn_157 : Try.prog.funcs[157]? = some Try.f157 := rfl
theorem fn_158 : Try.prog.funcs[158]? = some Try.f158 := rfl
theorem fn_159 : Try.prog.funcs[159]? = some Try.f159 := rfl
theorem fn_160 : Try.prog.funcs[160]? = some Try.f160 := rfl
theorem fn_161 : Try.prog.funcs[161]? = some Try.f161 := rfl
theorem fn_162 : Try.prog.funcs[162]? = some Try.f162 := rfl
theorem fn_163 : Try.prog.funcs[163]? = some Try.f163 := rfl
theorem fn_164 : Try.prog.funcs[164]? = some Try.f164 := rfl
theorem fn_165 : Try.prog.funcs[165]? = some Try.f165 := rfl
theorem fn_182 : Try.prog.funcs[182]? = some Try.f182 := rfl
theorem fn_183 : Try.prog.funcs[183]? = some Try.f183 := rfl
theorem fn_184 : Try.prog.funcs[184]? = some Try.f184 := rfl
theorem fn_185 : Try.prog.funcs[185]? = some Try.f185 := rfl
theorem fn_186 : Try.prog.funcs[186]? = some Try.f186 := rfl
theorem fn_187 : Try.prog.funcs[187]? = some Try.f187 := rfl
theorem fn_188 : Try.prog.funcs[188]? = some Try.f188 := rfl
theorem fn_189 : Try.prog.funcs[189]? = some Try.f189 := rfl
theorem fn_190 : Try.prog.funcs[190]? = some Try.f190 := rfl
theorem fn_191 : Try.prog.funcs[191]? = some Try.f191 := rfl
theorem fn_192 : Try.prog.funcs[192]? = some Try.f192 := rfl
theorem ent_3 : entB Try.prog 3 = true := by kernel_rfl
theorem ent_4 : entB Try.prog 4 = true := by kernel_rfl
theorem ent_5 : entB Try.prog 5 = true := by kernel_rfl
theorem ent_6 : entB Try.prog 6 = true := by kernel_rfl
theorem ent_7 : entB Try.prog 7 = true := by kernel_rfl
theorem ent_8 : entB Try.prog 8 = true := by kernel_rfl
theorem ent_9 : entB Try.prog 9 = true := by kernel_rfl
theorem ent_10 : entB Try.prog 10 = true := by kernel_rfl
theorem ent_11 : entB Try.prog 11 = true := by kernel_rfl
theorem ent_12 : entB Try.prog 12 = true := by kernel_rfl
theorem ent_13 : entB Try.prog 13 = true := by kernel_rfl
theorem ent_14 : entB Try.prog 14 = true := by kernel_rfl
theorem ent_15 : entB Try.prog 15 = true := by kernel_rfl
theorem ent_16 : entB Try.prog 16 = true := by kernel_rfl
theorem ent_17 : entB Try.prog 17 = true := by kernel_rfl
theorem ent_18 : entB Try.prog 18 = true := by kernel_rfl
theorem ent_19 : entB Try.prog 19 = true := by kernel_rfl
theorem ent_20 : entB Try.prog 20 = true := by kernel_rfl
theorem ent_21 : entB Try.prog 21 = true := by kernel_rfl
theorem ent_22 : entB Try.prog 22 = true := by kernel_rfl
theorem ent_23 : entB Try.prog 23 = true := by kernel_rfl
theorem ent_24 : entB Try.prog 24 = true := by kernel_rfl
theorem ent_25 : entB Try.prog 25 = true := by kernel_rfl
theorem ent_26 : entB Try.prog 26 = true := by kernel_rfl
theorem ent_27 : entB Try.prog 27 = true := by kernel_rfl
theorem ent_28 : entB Try.prog 28 = true := by kernel_rfl
theorem ent_29 : entB Try.prog 29 = true := by kernel_rfl
theorem ent_30 : entB Try.prog 30 = true := by kernel_rfl
theorem ent_31 : entB Try.prog 31 = true := by kernel_rfl
theorem ent_32 : entB Try.prog 32 = true := by kernel_rfl
theorem ent_33 : entB Try.prog 33 = true := by kernel_rfl
theorem ent_34 : entB Try.prog 34 = true := by kernel_rfl
theorem ent_35 : entB Try.prog 35 = true := by kernel_rfl
theorem ent_36 : entB Try.prog 36 = true := by kernel_rfl
theorem ent_37 : entB Try.prog 37 = true := by kernel_rfl
theorem ent_38 : entB Try.prog 38 = true := by kernel_rfl
theorem ent_39 : entB Try.prog 39 = true := by kernel_rfl
theorem ent_40 : entB Try.prog 40 = true := by kernel_rfl
theorem ent_41 : entB Try.prog 41 = true := by kernel_rfl
theorem ent_42 : entB Try.prog 42 = true := by kernel_rfl
theorem ent_43 : entB Try.prog 43 = true := by kernel_rfl
theorem ent_44 : entB Try.prog 44 = true := by kernel_rfl
theorem ent_45 : entB Try.prog 45 = true := by kernel_rfl
theorem ent_46 : entB Try.prog 46 = true := by kernel_rfl
theorem ent_47 : entB Try.prog 47 = true := by kernel_rfl
theorem ent_48 : entB Try.prog 48 = true := by kernel_rfl
theorem ent_49 : entB Try.prog 49 = true := by kernel_rfl
theorem ent_50 : entB Try.prog 50 = true := by kernel_rfl
theorem ent_51 : entB Try.prog 51 = true := by kernel_rfl
theorem ent_52 : entB Try.prog 52 = true := by kernel_rfl
theorem ent_53 : entB Try.prog 53 = true := by kernel_rfl
theorem ent_54 : entB Try.prog 54 = true := by kernel_rfl
theorem ent_55 : entB Try.prog 55 = true := by kernel_rfl
theorem ent_56 : entB Try.prog 56 = true := by kernel_rfl
theorem ent_57 : entB Try.prog 57 = true := by kernel_rfl
theorem ent_58 : entB Try.prog 58 = true := by kernel_rfl
theorem ent_59 : entB Try.prog 59 = true := by kernel_rfl
theorem ent_60 : entB Try.prog 60 = true := by kernel_rfl
theorem ent_61 : entB Try.prog 61 = true := by kernel_rfl
theorem ent_62 : entB Try.prog 62 = true := by kernel_rfl
theorem ent_63 : entB Try.prog 63 = true := by kernel_rfl
theorem ent_64 : entB Try.prog 64 = true := by kernel_rfl
theorem ent_65 : entB Try.prog 65 = true := by kernel_rfl
theorem ent_66 : entB Try.prog 66 = true := by kernel_rfl
theorem ent_67 : entB Try.prog 67 = true := by kernel_rfl
theorem ent_68 : entB Try.prog 68 = true := by kernel_rfl
theorem ent_69 : entB Try.prog 69 = true := by kernel_rfl
theorem ent_70 : entB Try.prog 70 = true := by kernel_rfl
theorem ent_71 : entB Try.prog 71 = true := by kernel_rfl
theorem ent_72 : entB Try.prog 72 = true := by kernel_rfl
theorem ent_73 : entB Try.prog 73 = true := by kernel_rfl
theorem ent_74 : entB Try.prog 74 = true := by kernel_rfl
theorem ent_75 : entB Try.prog 75 = true := by kernel_rfl
theorem ent_76 : entB Try.prog 76 = true := by kernel_rfl
theorem ent_77 : entB Try.prog 77 = true := by kernel_rfl
theorem ent_78 : entB Try.prog 78 = true := by kernel_rfl
theorem ent_79 : entB Try.prog 79 = true := by kernel_rfl
theorem ent_80 : entB Try.prog 80 = true := by kernel_rfl
theorem ent_81 : entB Try.prog 81 = true := by kernel_rfl
theorem ent_82 : entB Try.prog 82 = true := by kernel_rfl
theorem ent_83 : entB Try.prog 83 = true := by kernel_rfl
theorem ent_84 : entB Try.prog 84 = true := by kernel_rfl
theorem ent_85 : entB Try.prog 85 = true := by kernel_rfl
theorem ent_86 : entB Try.prog 86 = true := by kernel_rfl
theorem ent_87 : entB Try.prog 87 = true := by kernel_rfl
theorem ent_88 : entB Try.prog 88 = true := by kernel_rfl
theorem ent_89 : entB Try.prog 89 = true := by kernel_rfl
theorem ent_90 : entB Try.prog 90 = true := by kernel_rfl
theorem ent_91 : entB Try.prog 91 = true := by kernel_rfl
theorem ent_92 : entB Try.prog 92 = true := by kernel_rfl
theorem ent_93 : entB Try.prog 93 = true := by kernel_rfl
theorem ent_94 : entB Try.prog 94 = true := by kernel_rfl
theorem ent_95 : entB Try.prog 95 = true := by kernel_rfl
theorem ent_96 : entB Try.prog 96 = true := by kernel_rfl
theorem ent_97 : entB Try.prog 97 = true := by kernel_rfl
theorem ent_98 : entB Try.prog 98 = true := by kernel_rfl
theorem ent_99 : entB Try.prog 99 = true := by kernel_rfl
theorem ent_100 : entB Try.prog 100 = true := by kernel_rfl
theorem ent_101 : entB Try.prog 101 = true := by kernel_rfl
theorem ent_102 : entB Try.prog 102 = true := by kernel_rfl
theorem ent_103 : entB Try.prog 103 = true := by kernel_rfl
theorem ent_104 : entB Try.prog 104 = true := by kernel_rfl
theorem ent_105 : entB Try.prog 105 = true := by kernel_rfl
theorem ent_106 : entB Try.prog 106 = true := by kernel_rfl
theorem ent_107 : entB Try.prog 107 = true := by kernel_rfl
theorem ent_108 : entB Try.prog 108 = true := by kernel_rfl
theorem ent_109 : entB Try.prog 109 = true := by kernel_rfl
theorem ent_110 : entB Try.prog 110 = true := by kernel_rfl
theorem ent_111 : entB Try.prog 111 = true := by kernel_rfl
theorem ent_112 : entB Try.prog 112 = true := by kernel_rfl
theorem ent_113 : entB Try.prog 113 = true := by kernel_rfl
theorem ent_114 : entB Try.prog 114 = true := by kernel_rfl
theorem ent_115 : entB Try.prog 115 = true := by kernel_rfl
theorem ent_116 : entB Try.prog 116 = true := by kernel_rfl
theorem ent_117 : entB Try.prog 117 = true := by kernel_rfl
theorem ent_118 : entB Try.prog 118 = true := by kernel_rfl
theorem ent_119 : entB Try.prog 119 = true := by kernel_rfl
theorem ent_120 : entB Try.prog 120 = true := by kernel_rfl
theorem ent_121 : entB Try.prog 121 = true := by kernel_rfl
theorem ent_122 : entB Try.prog 122 = true := by kernel_rfl
theorem ent_123 : entB Try.prog 123 = true := by kernel_rfl
theorem ent_124 : entB Try.prog 124 = true := by kernel_rfl
theorem ent_125 : entB Try.prog 125 = true := by kernel_rfl
theorem ent_126 : entB Try.prog 126 = true := by kernel_rfl
theorem ent_127 : entB Try.prog 127 = true := by kernel_rfl
theorem ent_128 : entB Try.prog 128 = true := by kernel_rfl
theorem ent_129 : entB Try.prog 129 = true := by kernel_rfl
theorem ent_130 : entB Try.prog 130 = true := by kernel_rfl
theorem ent_131 : entB Try.prog 131 = true := by kernel_rfl
theorem ent_132 : entB Try.prog 132 = true := by kernel_rfl
theorem ent_133 : entB Try.prog 133 = true := by kernel_rfl
theorem ent_134 : entB Try.prog 134 = true := by kernel_rfl
theorem ent_135 : entB Try.prog 135 = true := by kernel_rfl
theorem ent_136 : entB Try.prog 136 = true := by kernel_rfl
theorem ent_137 : entB Try.prog 137 = true := by kernel_rfl
theorem ent_138 : entB Try.prog 138 = true := by kernel_rfl
theorem ent_139 : entB Try.prog 139 = true := by kernel_rfl
theorem ent_140 : entB Try.prog 140 = true := by kernel_rfl
theorem ent_141 : entB Try.prog 141 = true := by kernel_rfl
theorem ent_142 : entB Try.prog 142 = true := by kernel_rfl
theorem ent_143 : entB Try.prog 143 = true := by kernel_rfl
theorem ent_144 : entB Try.prog 144 = true := by kernel_rfl
theorem ent_145 : entB Try.prog 145 = true := by kernel_rfl
theorem ent_146 : entB Try.prog 146 = true := by kernel_rfl
theorem ent_147 : entB Try.prog 147 = true := by kernel_rfl
theorem ent_148 : entB Try.prog 148 = true := by kernel_rfl
theorem ent_149 : entB Try.prog 149 = true := by kernel_rfl
theorem ent_150 : entB Try.prog 150 = true := by kernel_rfl
theorem ent_151 : entB Try.prog 151 = true := by kernel_rfl
theorem ent_152 : entB Try.prog 152 = true := by kernel_rfl
theorem ent_153 : entB Try.prog 153 = true := by kernel_rfl
theorem ent_154 : entB Try.prog 154 = true := by kernel_rfl
theorem ent_155 : entB Try.prog 155 = true := by kernel_rfl
theorem ent_156 : entB Try.prog 156 = true := by kernel_rfl
theorem ent_157 : entB Try.prog 157 = true := by kernel_rfl
theorem ent_158 : entB Try.prog 158 = true := by kernel_rfl
theorem ent_159 : entB Try.prog 159 = true := by kernel_rfl
theorem ent_160 : entB Try.prog 160 = true := by kernel_rfl
theorem ent_161 : entB Try.prog 161 = true := by kernel_rfl
theorem ent_162 : entB Try.prog 162 = true := by kernel_rfl
theorem ent_163 : entB Try.prog 163 = true := by kernel_rfl
theorem ent_164 : entB Try.prog 164 = true := by kernel_rfl
theorem ent_165 : entB Try.prog 165 = true := by kernel_rfl
theorem ent_182 : entB Try.prog 182 = true := by kernel_rfl
theorem ent_183 : entB Try.prog 183 = true := by kernel_rfl
theorem ent_184 : entB Try.prog 184 = true := by kernel_rfl
theorem ent_185 : entB Try.prog 185 = true := by kernel_rfl
theorem ent_186 : entB Try.prog 186 = true := by kernel_rfl
theorem ent_187 : entB Try.prog 187 = true := by kernel_rfl
theorem ent_188 : entB Try.prog 188 = true := by kernel_rfl
theorem ent_189 : entB Try.prog 189 = true := by kernel_rfl
theorem ent_190 : entB Try.prog 190 = true := by kernel_rfl
theorem ent_191 : entB Try.prog 191 = true := by kernel_rfl
theorem ent_192 : entB Try.prog 192 = true := by kernel_rfl
attribute [go_sem] tab_1 tab_2 tab_3 tab_4 tab_5 tab_6 tab_7 tab_8 tab_9 tab_10 tab_11 tab_12 tab_13 tab_14 tab_15 tab_16 tab_17 tab_18 tab_19 tab_20 tab_21 tab_22 tab_23 tab_24 tab_25 tab_26 tab_27 tab_29 tab_30 tab_31 tab_32 tab_33 tab_34 tab_35 tab_36 tab_37 tab_38 tab_39 tab_40 tab_41 tab_42 tab_44 tab_45 tab_47 tab_48 tab_49 tab_50 tab_51 tab_52 tab_53 tab_54 tab_55 tab_57 tab_58 tab_59 tab_60 tab_61 tab_62 tab_63 tab_64 tab_65 tab_66 tab_67 tab_68 tab_69 tab_70 tab_71 tab_72 tab_74 tab_75 tab_76 tab_78 tab_79 tab_80 tab_81 tab_82 tab_83 tab_84 tab_86 tab_88 tab_89 tab_90 tab_91 tab_92 tab_93 tab_94 tab_95 tab_96 tab_97 tab_98 tab_99 tab_101 tab_102 tab_103 tab_104 tab_105 tab_107 tab_108 tab_109 tab_110 tab_111 tab_112 tab_113 tab_114 tab_115 tab_116 tab_117 tab_118 tab_119 tab_120 tab_121 tab_122 tab_123 tab_124 tab_126 tab_127 tab_128 tab_129 tab_131 tab_132 tab_133 tab_135 tab_136 tab_137 tab_138 tab_140 tab_141 tab_142 tab_144 tab_145 tab_146 tab_147 tab_148 tab_149 tab_151 tab_152 tab_153 tab_154 tab_155 tab_156 tab_157 tab_158 tab_159 tab_160 tab_161 tab_162 tab_163 tab_164 tab_165 tab_166 tab_167 tab_168 tab_169 tab_170 tab_171 tab_172 tab_173 tab_174 tab_175 tab_176 tab_177 tab_178 tab_179 tab_180 tab_182 tab_183 tab_184 tab_185 tab_186 tab_188 tab_189 tab_191 tab_192 tab_193 tab_194 tab_195 tab_196 tab_197 tab_198 tab_199 tab_200 tab_201 tab_202 tab_204 tab_205 tab_206 tab_207 tab_208 tab_209 tab_210 tab_211 tab_213 tab_214 tab_215 tab_216 tab_217 tab_218 tab_219 tab_221 tab_222 tab_223 tab_224 tab_225 tab_226 tab_227 tab_228 tab_229 tab_230 tab_231 tab_232 tab_233 tab_234 tab_235 tab_236 tab_237 tab_238 tab_239 tab_240 tab_241 tab_242 tab_243 tab_244 tab_245 tab_246 tab_247 tab_248 tab_249 tab_250 tab_251 tab_252 tab_253 tab_254 tab_255 tab_256 tab_257 tab_258 tab_259 tab_260 tab_261 tab_262 tab_263 tab_264 tab_266 tab_267 tab_268 tab_270 tab_271 tab_272 tab_273 tab_274 tab_275 tab_276 tab_277 tab_278 tab_279 tab_280 tab_281 tab_282 tab_283 tab_286 tab_287 tab_288 tab_289 tab_290 tab_291 tab_292 tab_293 tab_294 tab_295 tab_296 tab_297 tab_298 tab_299 tab_300 tab_301 tab_302 tab_303 tab_304 tab_305 tab_306 ent_3 ent_4 ent_5 ent_6 ent_7 ent_8 ent_9 ent_10 ent_11 ent_12 ent_13 ent_14 ent_15 ent_16 ent_17 ent_18 ent_19 ent_20 ent_21 ent_22 ent_23 ent_24 ent_25 ent_26 ent_27 ent_28 ent_29 ent_30 ent_31 ent_32 ent_33 ent_34 ent_35 ent_36 ent_37 ent_38 ent_39 ent_40 ent_41 ent_42 ent_43 ent_44 ent_45 ent_46 ent_47 ent_48 ent_49 ent_50 ent_51 ent_52 ent_53 ent_54 ent_55 ent_56 ent_57 ent_58 ent_59 ent_60 ent_61 ent_62 ent_63 ent_64 ent_65 ent_66 ent_67 ent_68 ent_69 ent_70 ent_71 ent_72 ent_73 ent_74 ent_75 ent_76 ent_77 ent_78 ent_79 ent_80 ent_81 ent_82 ent_83 ent_84 ent_85 ent_86 ent_87 ent_88 ent_89 ent_90 ent_91 ent_92 ent_93 ent_94 ent_95 ent_96 ent_97 ent_98 ent_99 ent_100 ent_101 ent_102 ent_103 ent_104 ent_105 ent_106 ent_107 ent_108 ent_109 ent_110 ent_111 ent_112 ent_113 ent_114 ent_115 ent_116 ent_117 ent_118 ent_119 ent_120 ent_121 ent_122 ent_123 ent_124 ent_125 ent_126 ent_127 ent_128 ent_129 ent_130 ent_131 ent_132 ent_133 ent_134 ent_135 ent_136 ent_137 ent_138 ent_139 ent_140 ent_141 ent_142 ent_143 ent_144 ent_145 ent_146 ent_147 ent_148 ent_149 ent_150 ent_151 ent_152 ent_153 ent_154 ent_155 ent_156 ent_157 ent_158 ent_159 ent_160 ent_161 ent_162 ent_163 ent_164 ent_165 ent_182 ent_183 ent_184 ent_185 ent_186 ent_187 ent_188 ent_189 ent_190 ent_191 ent_192 fn_3 fn_4 fn_5 fn_6 fn_7 fn_8 fn_9 fn_10 fn_11 fn_12 fn_13 fn_14 fn_15 fn_16 fn_17 fn_18 fn_19 fn_20 fn_21 fn_22 fn_23 fn_24 fn_25 fn_26 fn_27 fn_28 fn_29 fn_30 fn_31 fn_32 fn_33 fn_34 fn_35 fn_36 fn_37 fn_38 fn_39 fn_40 fn_41 fn_42 fn_43 fn_44 fn_45 fn_46 fn_47 fn_48 fn_49 fn_50 fn_51 fn_52 fn_53 fn_54 fn_55 fn_56 fn_57 fn_58 fn_59 fn_60 fn_61 fn_62 fn_63 fn_64 fn_65 fn_66 fn_67 fn_68 fn_69 fn_70 fn_71 fn_72 fn_73 fn_74 fn_75 fn_76 fn_77 fn_78 fn_79 fn_80 fn_81 fn_82 fn_83 fn_84 fn_85 fn_86 fn_87 fn_88 fn_89 fn_90 fn_91 fn_92 fn_93 fn_94 fn_95 fn_96 fn_97 fn_98 fn_99 fn_100 fn_101 fn_102 fn_103 fn_104 fn_105 fn_106 fn_107 fn_108 fn_109 fn_110 fn_111 fn_112 fn_113 fn_114 fn_115 fn_116 fn_117 fn_118 fn_119 fn_120 fn_121 fn_122 fn_123 fn_124 fn_125 fn_126 fn_127 fn_128 fn_129 fn_130 fn_131 fn_132 fn_133 fn_134 fn_135 fn_136 fn_137 fn_138 fn_139 fn_140 fn_141 fn_142 fn_143 fn_144 fn_145 fn_146 fn_147 fn_148 fn_149 fn_150 fn_151 fn_152 fn_153 fn_154 fn_155 fn_156 fn_157 fn_158 fn_159 fn_160 fn_161 fn_162 fn_163 fn_164 fn_165 fn_182 fn_183 fn_184 fn_185 fn_186 fn_187 fn_188 fn_189 fn_190 fn_191 fn_192
end Go.Eng
end
