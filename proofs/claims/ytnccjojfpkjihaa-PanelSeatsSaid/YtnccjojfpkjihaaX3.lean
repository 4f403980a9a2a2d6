/-
  A part of the symbolic machine, of its soundness, and of what functions compute. No condition.
-/
import Derived.Recover
import Derived.Test.YtnccjojfpkjihaaX2
set_option linter.unusedSimpArgs false
set_option linter.unusedVariables false
/- The symbolic machine is right: one operation. -/
section
namespace Go.Eng
open Go.RowKit
set_option linter.unusedVariables false

section
variable {C : Ctx} {cs : List Frame} {fid0 : Nat} {B : Bt} {E0 : Env} {w0 : World} {Q : Out → HS → Prop}

theorem nth_bool {E : Env} {w : World} {t : List SV} {tmps : Array Value} (hd : DenA E w t tmps) {d : Nat} {q : Bool} (h : nth t d = .bool q) : tmps[d]? = some (.bool q) := by
  rw [nth_eq] at h
  by_cases hl : d < t.length
  · have hv : d < tmps.size := by rw [hd.1]; exact hl
    have h1 := hd.2 d t[d] tmps[d] (List.getElem?_eq_getElem hl) (Array.getElem?_eq_getElem hv)
    simp only [List.getD, List.getElem?_eq_getElem hl, Option.getD_some] at h
    rw [h] at h1
    rw [Array.getElem?_eq_getElem hv]
    generalize tmps[d] = x at h1
    cases h1
    rfl
  · simp [List.getD, List.getElem?_eq_none (Nat.le_of_not_lt hl)] at h

theorem nth_undef {E : Env} {w : World} {t : List SV} {tmps : Array Value} (hd : DenA E w t tmps) {d : Nat} (h : nth t d = .tup []) : tmps[d]? = some (.tuple #[]) := by
  rw [nth_eq] at h
  have hl : d < t.length := by
    rcases Nat.lt_or_ge d t.length with hl | hl
    · exact hl
    · simp [List.getD, List.getElem?_eq_none hl] at h
  have hs : d < tmps.size := by rw [hd.1]; exact hl
  have hx : t[d]? = some (.tup []) := by
    have := List.getElem?_eq_getElem hl
    rw [List.getD, this] at h
    rw [this]; simpa using h
  have := hd.2 d _ tmps[d] hx (Array.getElem?_eq_getElem hs)
  rw [Array.getElem?_eq_getElem hs]
  generalize tmps[d] = v at this
  cases this
  rename_i vs hs hd
  have : vs = #[] := by apply Array.eq_empty_of_size_eq_zero; simpa using hs
  rw [this]
theorem upd_same {E : Env} {w : World} {t : List SV} {tmps : Array Value} (hd : DenA E w t tmps) {d : Nat} {x : SV} {v : Value} (hv : tmps[d]? = some v) (hx : Den E w x v) : DenA E w (upd t d x) tmps := by
  refine ⟨by simp [upd_eq, hd.1], fun i y u hy hu => ?_⟩
  rw [upd_eq, List.getElem?_set] at hy
  split at hy
  · rename_i e
    subst e
    split at hy
    · cases hy; rw [hv] at hu; cases hu; exact hx
    · cases hy
  · exact hd.2 i y u hy hu

theorem not_defer {T : Nat → Option TI} {F : Nat → Bool} {t : List SV} {h : HS} {o : Oper} (hb : opRes T F t h o ≠ .bad) : ∀ c, o.op ≠ .defer c := by
  intro c e
  apply hb
  obtain ⟨dst, op, ty, pos, aft, gd⟩ := o
  simp only at e
  subst e
  rfl

theorem execS_ok (hC : CtxOk C) (hB : BtOk C cs fid0 B E0 w0 Q) {R R0 : Rn} (hN : Nests C R0) (hR : Sound C cs fid0 B E0 w0 Q R) {fid : Nat} {ops : Array Oper} {i : Nat} {idx : List Nat} {k : List It} {t : List SV} {fs : List Fr} {h : HS} {o : Oper}
    (ho : ops[i]? = some o) {E : Env} {w : World} {tmps : Array Value} {frs : List Frame} {s : Nat} {ds : List Deferred} (hw : Region.wanted o (yielded ops tmps) = true)
    (hp : execS C R R0 (opRes C.T C.F t h o) fid ops i idx o.dst k t fs h Q) (hd : DenA E w t tmps) (hr : RelH E h w) (hs : StkOk C cs B E w w0.heap.size s fs frs) (hsw : s ≤ w.heap.size) (hds : DsOk E w B s w.heap.size ds) (hkb : kb E.nb k)
    (hi : InvK C cs B E w s w.heap.size fid frs k) (hx : Ext E0 w0 E w) (hb : bot fid fs = fid0) (hfn : ∃ fn, C.P.funcs[fid]? = some fn) (hfs : C.D ≠ none → fs = []) :
    Goal C B (lone (fra B ds (rnf E.rho k) fid tmps (.inRegion ops (i :: idx) :: items E.rho k)) (frs ++ cs) w) := by
  have hres := opRes_ok (P := C.P) (a := ⟨tmps, ds⟩) hC.T hC.F hd hr o
  have e0 : fra B ds (rnf E.rho k) fid tmps (.inRegion ops (i :: idx) :: items E.rho k) = (base B (rnf E.rho k) fid).atR ⟨tmps, ds⟩ (.inRegion ops (i :: idx) :: items E.rho k) := rfl
  rw [e0]
  unfold execS at hp
  have hput : ∀ v, (base B (rnf E.rho k) fid).atR ((⟨tmps, ds⟩ : Act).put o.dst v) (.inRegion ops idx :: items E.rho k) = fra B ds (rnf E.rho k) fid ((⟨tmps, ds⟩ : Act).put o.dst v).tmps (.inRegion ops idx :: items E.rho k) := fun v => by
    cases o.dst <;> rfl
  split at hp
  · rename_i p v h' hrs
    have hn := not_defer (T := C.T) (F := C.F) (t := t) (h := h) (o := o) (by rw [hrs]; intro e; cases e)
    rw [hrs] at hres
    obtain ⟨val, w', E', h1, h2, h3, h4⟩ := hres hp.1
    refine Goal.step (op_value (b := base B (rnf E.rho k) fid) (a := ⟨tmps, ds⟩) (k := items E.rho k) (cs := frs ++ cs) (rest := idx) hn ho hw h1) ?_
    rw [hput val, ← items_eq (fun nm hn => h4.rho nm hn) hkb, ← rnf_eq (fun nm hn => h4.rho nm hn) hkb]
    exact hR _ _ _ _ _ hp.2 hfs E' w' _ _ s ds (put_den (hd.ext h4) _ h2) h3 (hs.ext h4) (Nat.le_trans hsw h4.size) (hds.ext h4 h4.size) (by simp only [kb]; exact kb_le h4.nb hkb) (by simp only [InvK]; exact hi.ext h4 h4.size) (hx.trans h4) hb hfn
  · rename_i p h' hrs
    have hn := not_defer (T := C.T) (F := C.F) (t := t) (h := h) (o := o) (by rw [hrs]; intro e; cases e)
    rw [hrs] at hres
    obtain ⟨w', E', h1, h3, h4⟩ := hres hp.1
    refine Goal.step (op_skip (b := base B (rnf E.rho k) fid) (a := ⟨tmps, ds⟩) (k := items E.rho k) (cs := frs ++ cs) (rest := idx) hn ho hw h1) ?_
    rw [hput undef, ← items_eq (fun nm hn => h4.rho nm hn) hkb, ← rnf_eq (fun nm hn => h4.rho nm hn) hkb]
    exact hR _ _ _ _ _ hp.2 hfs E' w' _ _ s ds (put_den (hd.ext h4) _ (.any _)) h3 (hs.ext h4) (Nat.le_trans hsw h4.size) (hds.ext h4 h4.size) (by simp only [kb]; exact kb_le h4.nb hkb) (by simp only [InvK]; exact hi.ext h4 h4.size) (hx.trans h4) hb hfn
  · rename_i p v u h' hrs
    have hn := not_defer (T := C.T) (F := C.F) (t := t) (h := h) (o := o) (by rw [hrs]; intro e; cases e)
    rw [hrs] at hres
    obtain ⟨val, w', E', h1, h2, h3, h4⟩ := hres
    refine Goal.step (op_value (b := base B (rnf E.rho k) fid) (a := ⟨tmps, ds⟩) (k := items E.rho k) (cs := frs ++ cs) (rest := idx) hn ho hw h1) ?_
    rw [hput val, ← items_eq (fun nm hn => h4.rho nm hn) hkb, ← rnf_eq (fun nm hn => h4.rho nm hn) hkb]
    rcases h2 with ⟨hp1, h2⟩ | h2
    · exact hR _ _ _ _ _ (hp.1 hp1) hfs E' w' _ _ s ds (put_den (hd.ext h4) _ h2) h3 (hs.ext h4) (Nat.le_trans hsw h4.size) (hds.ext h4 h4.size) (by simp only [kb]; exact kb_le h4.nb hkb) (by simp only [InvK]; exact hi.ext h4 h4.size) (hx.trans h4) hb hfn
    · exact hR _ _ _ _ _ hp.2 hfs E' w' _ _ s ds (put_den (hd.ext h4) _ h2) h3 (hs.ext h4) (Nat.le_trans hsw h4.size) (hds.ext h4 h4.size) (by simp only [kb]; exact kb_le h4.nb hkb) (by simp only [InvK]; exact hi.ext h4 h4.size) (hx.trans h4) hb hfn
  · rename_i v hrs
    have hn := not_defer (T := C.T) (F := C.F) (t := t) (h := h) (o := o) (by rw [hrs]; intro e; cases e)
    rw [hrs] at hres
    obtain ⟨val, h1, h2⟩ := hres
    refine Goal.step (op_panic (b := base B (rnf E.rho k) fid) (a := ⟨tmps, ds⟩) (k := items E.rho k) (cs := frs ++ cs) (rest := idx) hn ho hw h1) ?_
    exact panQ_goal (todo := .inRegion ops (i :: idx) :: items E.rho k) hB hp hd hr hx h2 hs hds hb hfn hfs
  · rename_i g args hrs
    have hn := not_defer (T := C.T) (F := C.F) (t := t) (h := h) (o := o) (by rw [hrs]; intro e; cases e)
    rw [hrs] at hres
    obtain ⟨vals, h1, h2⟩ := hres
    refine Goal.step (op_enter (b := base B (rnf E.rho k) fid) (a := ⟨tmps, ds⟩) (k := items E.rho k) (cs := frs ++ cs) (rest := idx) hn ho hw h1) ?_
    exact goS_ok hC hB hN hR ho hp h2 hd hr hs hsw hds hkb hi hx hb hfn hfs
  · rename_i p g args h' hrs
    have hn := not_defer (T := C.T) (F := C.F) (t := t) (h := h) (o := o) (by rw [hrs]; intro e; cases e)
    rw [hrs] at hres
    obtain ⟨vals, E', h1, h2, h3, h4⟩ := hres hp.1
    refine Goal.step (op_enter (b := base B (rnf E.rho k) fid) (a := ⟨tmps, ds⟩) (k := items E.rho k) (cs := frs ++ cs) (rest := idx) hn ho hw h1) ?_
    have hgo := goS_ok hC hB hN hR ho hp.2 h2 (hd.ext h4) h3 (hs.ext h4) hsw (hds.ext h4 (Nat.le_refl _)) (kb_le h4.nb hkb) (hi.ext h4 (Nat.le_refl _)) (hx.trans h4) hb hfn hfs
    rw [← items_eq (fun nm hn => h4.rho nm hn) hkb, ← rnf_eq (fun nm hn => h4.rho nm hn) hkb]
    exact hgo
  · rename_i c n p v g u h' hrs
    have hn := not_defer (T := C.T) (F := C.F) (t := t) (h := h) (o := o) (by rw [hrs]; intro e; cases e)
    rw [hrs] at hres
    rcases hres hp.1 with ⟨j, val, w', E', q1, q2, h1, h2, h3, h4⟩ | ⟨q1, val, w', E', h1, h2, h3, h4⟩
    · refine Goal.step (op_value (b := base B (rnf E.rho k) fid) (a := ⟨tmps, ds⟩) (k := items E.rho k) (cs := frs ++ cs) (rest := idx) hn ho hw h1) ?_
      rw [hput val, ← items_eq (fun nm hn => h4.rho nm hn) hkb, ← rnf_eq (fun nm hn => h4.rho nm hn) hkb]
      exact hR _ _ _ _ _ (hp.2.1 j q1 q2) hfs E' w' _ _ s ds (put_den (hd.ext h4) _ h2) h3 (hs.ext h4) (Nat.le_trans hsw h4.size) (hds.ext h4 h4.size) (by simp only [kb]; exact kb_le h4.nb hkb) (by simp only [InvK]; exact hi.ext h4 h4.size) (hx.trans h4) hb hfn
    · refine Goal.step (op_value (b := base B (rnf E.rho k) fid) (a := ⟨tmps, ds⟩) (k := items E.rho k) (cs := frs ++ cs) (rest := idx) hn ho hw h1) ?_
      rw [hput val, ← items_eq (fun nm hn => h4.rho nm hn) hkb, ← rnf_eq (fun nm hn => h4.rho nm hn) hkb]
      exact hR _ _ _ _ _ (hp.2.2 q1) hfs E' w' _ _ s ds (put_den (hd.ext h4) _ h2) h3 (hs.ext h4) (Nat.le_trans hsw h4.size) (hds.ext h4 h4.size) (by simp only [kb]; exact kb_le h4.nb hkb) (by simp only [InvK]; exact hi.ext h4 h4.size) (hx.trans h4) hb hfn
  · rename_i nm rf rt assign body hrs
    have hn := not_defer (T := C.T) (F := C.F) (t := t) (h := h) (o := o) (by rw [hrs]; intro e; cases e)
    rw [hrs] at hres
    obtain ⟨rtmps, h1, h2, h3⟩ := hres
    refine Goal.step (op_round (b := base B (rnf E.rho k) fid) (a := ⟨tmps, ds⟩) (k := items E.rho k) (cs := frs ++ cs) (rest := idx) hn ho hw h1) ?_
    unfold roundS at hp
    split at hp
    · obtain ⟨v, val, h', E', w', q1, q2, q3, q4, q5⟩ := hp E w rtmps (fra B ds (rnf E.rho k) fid tmps (.inRegion ops (i :: idx) :: items E.rho k)) (frs ++ cs) hr h2 h3
      refine Goal.of_steps q1 ?_
      rw [fra_finish B ds _ fid tmps ops i idx _ _ ho, ← items_eq (fun nm hn => q4.rho nm hn) hkb, ← rnf_eq (fun nm hn => q4.rho nm hn) hkb]
      exact hR _ _ _ _ _ q2 hfs E' w' _ _ s ds (put_den (hd.ext q4) _ q5) q3 (hs.ext q4) (Nat.le_trans hsw q4.size) (hds.ext q4 q4.size) (by simp only [kb]; exact kb_le q4.nb hkb) (by simp only [InvK]; exact hi.ext q4 q4.size) (hx.trans q4) hb hfn
    · rename_i hD
      obtain ⟨hq1, hq2⟩ := hp
      have hround : Frame.round (E.rho nm) rf rtmps assign body .normal = fra B [] (rnf E.rho [.code assign, .beginR, .code body, .endR nm]) rf rtmps (items E.rho [.code assign, .beginR, .code body, .endR nm]) := by
        simp [Frame.round, fra, rnf, rnd, items, (hB.std hD).2.1]
      rw [hround]
      have := hR _ _ _ _ _ hq2 (fun h => absurd hD h) E w rtmps (fra B ds (rnf E.rho k) fid tmps (.inRegion ops (i :: idx) :: items E.rho k) :: frs) w.heap.size [] h2 hr (by
        simp only [StkOk]
        exact ⟨s, ds, tmps, hsw, Nat.le_refl _, by simp only [items]; rfl, hd, by simp only [kb]; exact hkb, hds, hfn, by simp only [InvK]; exact hi, hs⟩) (Nat.le_refl _) (no_marks (hB.std hD).1 _ _) (by simp only [kb]; exact ⟨h3, trivial⟩) (by simp only [InvK]) hx hb (by
          cases hf : C.FN rf with
          | none => rw [hf] at hq1; cases hq1
          | some fn => exact ⟨fn, hC.FN rf fn hf⟩)
      exact this
    · exact hp.elim
  · unfold stopQ at hp
    split at hp
    · exact hp.elim
    · rename_i l hD
      have h0 := hfs (by rw [hD]; simp)
      subst h0
      cases frs with
      | nil => cases hb; exact hB.stop l hD _ t h E w tmps s ds hp hd hr hx (by simp only [kb]; exact hkb) hds (stk_le hs)
      | cons _ _ => simp only [StkOk] at hs

theorem skip_goal (hB : BtOk C cs fid0 B E0 w0 Q) {R : Rn} (hR : Sound C cs fid0 B E0 w0 Q R) {fid : Nat} {ops : Array Oper} {i : Nat} {idx : List Nat} {k : List It} {t : List SV} {fs : List Fr} {h : HS} {o : Oper}
    (ho : ops[i]? = some o) {E : Env} {w : World} {tmps : Array Value} {frs : List Frame} {s : Nat} {ds : List Deferred} (hw : Region.wanted o (yielded ops tmps) = false)
    (hp : R fid (.reg ops idx :: k) (put t o.dst (.tup [])) fs h Q) (hd : DenA E w t tmps) (hr : RelH E h w) (hs : StkOk C cs B E w w0.heap.size s fs frs) (hsw : s ≤ w.heap.size) (hds : DsOk E w B s w.heap.size ds) (hkb : kb E.nb k)
    (hi : InvK C cs B E w s w.heap.size fid frs k) (hx : Ext E0 w0 E w) (hb : bot fid fs = fid0) (hfn : ∃ fn, C.P.funcs[fid]? = some fn) (hfs : C.D ≠ none → fs = []) :
    Goal C B (lone (fra B ds (rnf E.rho k) fid tmps (.inRegion ops (i :: idx) :: items E.rho k)) (frs ++ cs) w) := by
  refine Goal.step (stepR_op_skip (b := base B (rnf E.rho k) fid) (a := ⟨tmps, ds⟩) (k := items E.rho k) (cs := frs ++ cs) (rest := idx) (by simp [ho]; exact hw)) ?_
  have hput : (base B (rnf E.rho k) fid).atR ((⟨tmps, ds⟩ : Act).put ((ops[i]?).bind (·.dst)) undef) (.inRegion ops idx :: items E.rho k) = fra B ds (rnf E.rho k) fid ((⟨tmps, ds⟩ : Act).put o.dst undef).tmps (.inRegion ops idx :: items E.rho k) := by
    simp only [ho, Option.bind_some]
    cases o.dst <;> rfl
  rw [hput]
  exact hR _ _ _ _ _ hp hfs E w _ _ s ds (put_den hd _ (.tup #[] rfl (fun i x u hx => by simp at hx))) hr hs hsw hds (by simp only [kb]; exact hkb) (by simp only [InvK]; exact hi) hx hb hfn

theorem opS_ok (hC : CtxOk C) (hB : BtOk C cs fid0 B E0 w0 Q) {R R0 : Rn} (hN : Nests C R0) (hR : Sound C cs fid0 B E0 w0 Q R) {fid : Nat} {ops : Array Oper} {i : Nat} {idx : List Nat} {k : List It} {t : List SV} {fs : List Fr} {h : HS}
    {E : Env} {w : World} {tmps : Array Value} {frs : List Frame} {s : Nat} {ds : List Deferred}
    (hp : opS C R R0 (getO ops.toList i) fid ops i idx k t fs h Q) (hd : DenA E w t tmps) (hr : RelH E h w) (hs : StkOk C cs B E w w0.heap.size s fs frs) (hsw : s ≤ w.heap.size) (hds : DsOk E w B s w.heap.size ds) (hkb : kb E.nb k)
    (hi : InvK C cs B E w s w.heap.size fid frs k) (hx : Ext E0 w0 E w) (hb : bot fid fs = fid0) (hfn : ∃ fn, C.P.funcs[fid]? = some fn) (hfs : C.D ≠ none → fs = []) :
    Goal C B (lone (fra B ds (rnf E.rho k) fid tmps (.inRegion ops (i :: idx) :: items E.rho k)) (frs ++ cs) w) := by
  unfold opS at hp
  split at hp
  · rename_i dst op ty pos aft ho
    rw [getO_eq, Array.getElem?_toList] at ho
    exact execS_ok hC hB hN hR ho (by simp [Region.wanted]) hp hd hr hs hsw hds hkb hi hx hb hfn hfs
  · rename_i dst op ty pos aft j want ho
    rw [getO_eq, Array.getElem?_toList] at ho
    unfold guard1 at hp
    split at hp
    · rename_i d _ _ _ _ _ hj
      rw [getO_eq, Array.getElem?_toList] at hj
      unfold guardS at hp
      split at hp
      · rename_i q hq
        have hv := nth_bool hd hq
        have hy : yielded ops tmps j = some q := by simp [yielded, hj, hv]
        have main : ∀ b, q = b → wantS C R R0 b want ⟨dst, op, ty, pos, aft, some (j, want)⟩ fid ops i idx k (upd t d (.bool b)) fs h Q → Goal C B (lone (fra B ds (rnf E.rho k) fid tmps (.inRegion ops (i :: idx) :: items E.rho k)) (frs ++ cs) w) := by
          rintro b rfl hws
          have hd' := upd_same hd hv (.bool q)
          unfold wantS at hws
          split at hws
          · exact execS_ok hC hB hN hR ho (by simp [Region.wanted, hy]) hws hd' hr hs hsw hds hkb hi hx hb hfn hfs
          · exact execS_ok hC hB hN hR ho (by simp [Region.wanted, hy]) hws hd' hr hs hsw hds hkb hi hx hb hfn hfs
          · rename_i n1 n2
            refine skip_goal hB hR ho ?_ hws hd' hr hs hsw hds hkb hi hx hb hfn hfs
            cases q <;> cases want <;> simp_all [Region.wanted]
        cases q with
        | true => exact main true rfl (hp.1 rfl)
        | false => exact main false rfl (hp.2 rfl)
      · rename_i hq
        refine skip_goal hB hR ho ?_ hp hd hr hs hsw hds hkb hi hx hb hfn hfs
        have hv := nth_undef hd hq
        have hy : yielded ops tmps j = none := by simp [yielded, hj, hv]
        simp [Region.wanted, hy]
      · exact hp.elim
    · exact hp.elim
  · exact hp.elim
end
end Go.Eng
end

/- Regions whose order is drawn: what an operation looks at. -/
section
namespace Go.Eng
open Go.RowKit
set_option linter.unusedVariables false

theorem nth_upd_ne : ∀ (t : List SV) (d m : Nat) (v : SV), m ≠ d → nth (upd t d v) m = nth t m
  | [], _, _, _, _ => rfl
  | _ :: _, 0, 0, _, h => absurd rfl h
  | _ :: _, 0, _ + 1, _, _ => rfl
  | _ :: _, _ + 1, 0, _, _ => rfl
  | _ :: l, d + 1, m + 1, v, h => nth_upd_ne l d m v (fun e => h (by rw [e]))
theorem upd_nth : ∀ (t : List SV) (d : Nat), upd t d (nth t d) = t
  | [], _ => rfl
  | _ :: _, 0 => rfl
  | x :: l, d + 1 => by simp only [upd, nth, upd_nth l d]
theorem upd_upd : ∀ (t : List SV) (d : Nat) (v u : SV), upd (upd t d v) d u = upd t d u
  | [], _, _, _ => rfl
  | _ :: _, 0, _, _ => rfl
  | x :: l, d + 1, v, u => by simp only [upd, upd_upd l d v u]
theorem upd_comm : ∀ (t : List SV) (d e : Nat) (v u : SV), d ≠ e → upd (upd t d v) e u = upd (upd t e u) d v
  | [], _, _, _, _, _ => rfl
  | _ :: _, 0, 0, _, _, h => absurd rfl h
  | _ :: _, 0, _ + 1, _, _, _ => rfl
  | _ :: _, _ + 1, 0, _, _, _ => rfl
  | x :: l, d + 1, e + 1, v, u, h => by simp only [upd, upd_comm l d e v u (fun e' => h (by rw [e']))]
theorem upd_inj : ∀ (t : List SV) (d e : Nat) (v u : SV), d ≠ e → upd (upd t d v) e u = upd t d v → upd t e u = t
  | [], _, _, _, _, _, _ => rfl
  | _ :: _, 0, 0, _, _, h, _ => absurd rfl h
  | x :: l, 0, e + 1, v, u, _, h => by simp only [upd, List.cons.injEq, true_and] at h ⊢; exact h
  | x :: l, d + 1, 0, v, u, _, h => by simp only [upd, List.cons.injEq, and_true] at h ⊢; exact h
  | x :: l, d + 1, e + 1, v, u, hne, h => by
    simp only [upd, List.cons.injEq, true_and] at h ⊢
    exact upd_inj l d e v u (fun e' => hne (by rw [e'])) h

theorem ev_upd {t : List SV} {d : Nat} {v : SV} {x : Operand} (h : x ≠ .tmp d) : ev (upd t d v) x = ev t x := by
  cases x with
  | tmp m => exact nth_upd_ne t d m v (fun e => h (by rw [e]))
  | const v => rfl
  | global g => rfl
  | func f => rfl
theorem looks_op {ops : Array Oper} {o : Oper} {x : Operand} {d : Nat} (hx : x ∈ o.op.operands) (hd : d ∉ o.looksAt ops) : x ≠ .tmp d := by
  rintro rfl
  exact hd (List.mem_append_left _ (List.mem_filterMap.2 ⟨.tmp d, by simpa using hx, rfl⟩))

theorem evL_congr {t t' : List SV} : ∀ {l : List Operand}, (∀ x ∈ l, ev t x = ev t' x) → evL t l = evL t' l
  | [], _ => rfl
  | x :: l, h => by simp only [evL, h x (by simp), evL_congr (l := l) fun y hy => h y (by simp [hy])]
theorem evA_congr {T : Nat → Option TI} {t t' : List SV} : ∀ {l : List Operand} {tys : List TypeId}, (∀ x ∈ l, ev t x = ev t' x) → evA T t l tys = evA T t' l tys
  | [], _, _ => by simp only [evA]
  | x :: l, [], h => by simp only [evA, h x (by simp), evL_congr (l := l) fun y hy => h y (by simp [hy])]
  | x :: l, ty :: tys, h => by simp only [evA, ev1, h x (by simp), evA_congr (l := l) fun y hy => h y (by simp [hy])]
theorem evP_congr {t t' : List SV} : ∀ {l : List (Nat × Operand)}, (∀ x ∈ l, ev t x.2 = ev t' x.2) → evP t l = evP t' l
  | [], _ => rfl
  | (n, x) :: l, h => by simp only [evP, h (n, x) (by simp), evP_congr (l := l) fun y hy => h y (by simp [hy])]
theorem opRes_congr (T : Nat → Option TI) (F : Nat → Bool) {t t' : List SV} (h : HS) (o : Oper) (he : ∀ x ∈ o.op.operands, ev t x = ev t' x) : opRes T F t h o = opRes T F t' h o := by
  obtain ⟨dst, op, type, pos, after, guard⟩ := o
  have pairs : ∀ ps : Array (Nat × Operand), (∀ x ∈ ps.map (·.2), ev t x = ev t' x) → evP t ps.toList = evP t' ps.toList := fun ps hp =>
    evP_congr fun x hx => hp x.2 (Array.mem_map.2 ⟨x, by simpa using hx, rfl⟩)
  cases op <;> simp only [Op.operands] at he <;> simp only [opRes]
  case move x => unfold rMove; rw [he x (by simp)]
  case assign x => unfold rMove; rw [he x (by simp)]
  case build ty ps => rw [pairs ps fun x hx => he x (by simpa using hx)]
  case buildSlice ty n ps => rw [pairs ps fun x hx => he x (by simpa using hx)]
  case makeFunc fn first captured => rw [evL_congr (l := captured.toList) fun x hx => he x (by simp [show x ∈ captured by simpa using hx]), evL_congr (l := first.toList) fun x hx => he x (by simp [show x ∈ first by simpa using hx])]
  case slice ty x lo hi mx =>
    have h1 := he x (by simp)
    have h2 : evO t lo = evO t' lo := by
      cases lo with
      | none => rfl
      | some l => simp only [evO, he l (by simp)]
    have h3 : evO t hi = evO t' hi := by
      cases hi with
      | none => rfl
      | some l => simp only [evO, he l (by simp)]
    have h4 : evO t mx = evO t' mx := by
      cases mx with
      | none => rfl
      | some l => simp only [evO, he l (by simp)]
    simp only [h1, h2, h3, h4]
  case call c =>
    have hargs : evL t c.args.toList = evL t' c.args.toList := evL_congr fun x hx => he x (by simp [Call.operands, show x ∈ c.args by simpa using hx])
    have hargs2 : evA T t c.args.toList c.argTypes.toList = evA T t' c.args.toList c.argTypes.toList := evA_congr fun x hx => he x (by simp [Call.operands, show x ∈ c.args by simpa using hx])
    cases hc : c.callee with
    | value f => have hf := he f (by simp [Call.operands, hc]); simp only [hf, argsN, hargs, hargs2]
    | builtin b => simp only [hargs]
    | invoke r m => rfl
  case makeMap ty r => cases r <;> rfl
  case next x b => cases b <;> first | rfl | (simp only [he x (by simp)])
  all_goals (first | rfl | (simp_all; done))

theorem flat_res (T : Nat → Option TI) (F : Nat → Bool) (t : List SV) {o : Oper} (hf : flat o = true) (G : Nat → Option Spec) (h h' : HS) {p : Prop} {v : SV}
    (hq : resQ G (opRes T F t h o) h = some (p, v)) (hp : p) : ∃ p', resQ G (opRes T F t h' o) h' = some (p', v) ∧ p' := by
  have val : ∀ (r : HS → Res), (∃ q u, ∀ h, r h = .val q u h) → resQ G (r h) h = some (p, v) → ∃ p', resQ G (r h') h' = some (p', v) ∧ p' := by
    rintro r ⟨q, u, hr⟩ hq
    rw [hr] at hq
    simp only [resQ, Option.some.injEq, Prod.mk.injEq] at hq
    obtain ⟨rfl, rfl⟩ := hq
    exact ⟨q ∧ h' = h', by rw [hr]; rfl, hp.1, rfl⟩
  have bad : resQ G Res.bad h = some (p, v) → False := fun e => by simp [resQ] at e
  obtain ⟨dst, op, type, pos, after, guard⟩ := o
  have mv : ∀ x, flat ⟨dst, .move x, type, pos, after, guard⟩ = true → resQ G (rMove T t h type x) h = some (p, v) → ∃ p', resQ G (rMove T t h' type x) h' = some (p', v) ∧ p' := by
    intro x hf hq
    have e : ∀ h, rMove T t h type x = .val True (ev t x) h := by
      intro h
      unfold rMove
      split
      · simp [flat] at hf
      · rfl
    exact val (fun h => rMove T t h type x) ⟨_, _, e⟩ hq
  cases op <;> (try simp only [flat] at hf) <;> (try (cases hf; done))
  case move x => exact mv x hf hq
  case assign x => exact mv x hf hq
  case pick a b c =>
    simp only [opRes, rPick] at hq ⊢
    split at hq
    · exact val (fun h => .val _ _ h) ⟨_, _, fun _ => rfl⟩ hq
    · exact (bad hq).elim
  case nilCheck x =>
    simp only [opRes, rNil] at hq ⊢
    split at hq <;> first
      | exact val (fun h => .val _ _ h) ⟨_, _, fun _ => rfl⟩ hq
      | exact (bad hq).elim
  case binOp op ty x y ty' =>
    simp only [opRes] at hq ⊢
    generalize ev t x = a at hq ⊢
    generalize ev t y = b at hq ⊢
    have ne : ∀ q, resQ G (neO op q h) h = some (p, v) → ∃ p', resQ G (neO op q h') h' = some (p', v) ∧ p' := by
      intro q hq
      unfold neO at hq ⊢
      split at hq <;> first
        | exact val (fun h => .val _ _ h) ⟨_, _, fun _ => rfl⟩ hq
        | exact (bad hq).elim
    unfold rBin3 at hq ⊢
    split at hq
    · unfold rEqNil at hq ⊢
      split at hq
      · split at hq
        · split at hq <;> first
            | exact val (fun h => .val _ _ h) ⟨_, _, fun _ => rfl⟩ hq
            | exact (bad hq).elim
            | (unfold vNil at hq; split at hq <;> simp [resQ] at hq)
        · exact (bad hq).elim
      · exact (bad hq).elim
    unfold rBin2 at hq ⊢
    split at hq
    · unfold rBin at hq ⊢
      split at hq <;> (try split at hq) <;> first
        | exact val (fun h => .val _ _ h) ⟨_, _, fun _ => rfl⟩ hq
        | exact (bad hq).elim
        | (simp_all only [if_true]; exact val (fun h => .val _ _ h) ⟨_, _, fun _ => rfl⟩ hq)
    · split at hq
      · unfold rEqB at hq ⊢
        split at hq
        · split at hq
          · exact ne _ hq
          · exact (bad hq).elim
        · exact (bad hq).elim
      · exact (bad hq).elim
    · split at hq
      · unfold rEqA at hq ⊢
        split at hq
        · split at hq
          · rename_i hi
            rw [if_pos hi]
            split at hq
            · split at hq
              · exact ne _ hq
              · exact (bad hq).elim
            · exact (bad hq).elim
          · exact (bad hq).elim
        · exact (bad hq).elim
      · exact (bad hq).elim
    · split at hq
      · unfold rEqI at hq ⊢
        split at hq
        · split at hq
          · rename_i hi
            rw [if_pos hi]
            exact ne _ hq
          · exact (bad hq).elim
        · exact (bad hq).elim
      · exact (bad hq).elim
    · split at hq
      · split at hq
        · rename_i hc
          rw [if_pos hc]
          unfold rEqI at hq ⊢
          split at hq
          · split at hq
            · rename_i hi
              rw [if_pos hi]
              exact ne _ hq
            · exact (bad hq).elim
          · exact (bad hq).elim
        · exact (bad hq).elim
      · exact (bad hq).elim
    · split at hq
      · split at hq
        · rename_i hc
          rw [if_pos hc]
          unfold rEqF at hq ⊢
          split at hq
          · split at hq
            · exact ne _ hq
            · exact (bad hq).elim
          · exact (bad hq).elim
        · exact (bad hq).elim
      · exact (bad hq).elim
    · split at hq
      · unfold rEqF at hq ⊢
        split at hq
        · split at hq
          · exact ne _ hq
          · exact (bad hq).elim
        · exact (bad hq).elim
      · exact (bad hq).elim
    · split at hq
      · unfold rEqF at hq ⊢
        split at hq
        · split at hq
          · exact ne _ hq
          · exact (bad hq).elim
        · exact (bad hq).elim
      · exact (bad hq).elim
    · exact (bad hq).elim
  case unOp op ty x =>
    simp only [opRes, rUn] at hq ⊢
    generalize ev t x = a at hq ⊢
    split at hq <;> (try split at hq) <;> first
      | exact val (fun h => .val _ _ h) ⟨_, _, fun _ => rfl⟩ hq
      | exact (bad hq).elim
  case convert s d x =>
    simp only [opRes, rConv] at hq ⊢
    split at hq
    · split at hq <;> first
        | exact val (fun h => .val _ _ h) ⟨_, _, fun _ => rfl⟩ hq
        | exact (bad hq).elim
    · exact (bad hq).elim
  case makeInterface ty x =>
    simp only [opRes, rIface] at hq ⊢
    split at hq
    · split at hq
      · exact (bad hq).elim
      · rename_i e; rw [if_neg e]; exact val (fun h => .val _ _ h) ⟨_, _, fun _ => rfl⟩ hq
    · exact (bad hq).elim
  case makeFunc fn first caps =>
    simp only [opRes, rFunc] at hq ⊢
    split at hq
    · exact val (fun h => .val _ _ h) ⟨_, _, fun _ => rfl⟩ hq
    · split at hq
      · exact val (fun h => .val _ _ h) ⟨_, _, fun _ => rfl⟩ hq
      · exact (bad hq).elim
    · exact (bad hq).elim
  case extract x k =>
    simp only [opRes, rExtract] at hq ⊢
    split at hq <;> (try split at hq) <;> first
      | exact val (fun h => .val _ _ h) ⟨_, _, fun _ => rfl⟩ hq
      | exact (bad hq).elim
      | (simp_all only [if_true]; exact val (fun h => .val _ _ h) ⟨_, _, fun _ => rfl⟩ hq)
end Go.Eng
end

/- Operations that call no function. -/
section
namespace Go.Eng
open Go.RowKit
set_option linter.unusedVariables false

def nc : Res → Prop
  | .call _ _ => False
  | .callN _ _ _ _ => False
  | _ => True
theorem nc_bin {op : BinOp} {a b : SV} {h : HS} : nc (rBin op a b h) := by
  unfold rBin; repeat' split
  all_goals trivial
theorem nc_neO {op : BinOp} {q : Bool} {h : HS} : nc (neO op q h) := by
  unfold neO; split <;> trivial
theorem nc_bin3 {ti : Option TI} {c nl : Bool} {op : BinOp} {a b : SV} {h : HS} : nc (rBin3 ti c op nl a b h) := by
  unfold rBin3 rEqNil vNil rBin2 rEqA rEqB rEqI rEqF; repeat' split
  all_goals first | exact nc_bin | exact nc_neO | trivial
theorem nc_store {ti : TI} {h : HS} {x y : SV} : nc (rStore ti h x y) := by
  unfold rStore; repeat' split
  all_goals trivial
theorem nc_storeN {T : Nat → Option TI} {ti : TI} {h : HS} {x y : SV} {b : Bool} : nc (rStoreN T h ti x b y) := by
  unfold rStoreN rStoreO skipAnd; repeat' split
  all_goals first | exact nc_store | trivial
theorem nc_cut {p : Prop} {id ver sz lo n : Nat} {h : HS} {l u : Option Int} {mx : Option SV} : nc (cutR p id ver sz lo n h l u mx) := by
  unfold cutR; repeat' split
  all_goals trivial
theorem nc_sl {te ti : TI} {g : Bool} {x : SV} {lo hi mx : Option SV} {h : HS} : nc (rSl te ti g x lo hi mx h) := by
  unfold rSl rSlR rSlG rSlice rSliceV sliV sliC; repeat' split
  all_goals first | exact nc_cut | trivial
theorem nc_box {o : Option TI} {e : TypeId} {y : SV} {h : HS} : nc (rBoxO h o e y) := by
  have hb : ∀ (y : SV) (h : HS), nc (rBox e y h) := fun y h => by unfold rBox; split <;> trivial
  unfold rBoxO; repeat' split
  all_goals exact hb _ _
theorem nc_lenI {es : List (List Int × List Int)} {h : HS} {o : Option (Nat × Nat × List Nat)} : nc (lenI es h o) := by
  unfold lenI; split <;> trivial
theorem nc_append {e : TypeId} {te : TI} {s x : SV} {h : HS} : nc (rAppend e te s x h) := by
  unfold rAppend apV apCX apX apC apN; repeat' split
  all_goals trivial
theorem nc_builtin {T : Nat → Option TI} {h : HS} {b : Builtin} {tys : List TypeId} {args : List SV} : nc (rBuiltin T h b tys args) := by
  unfold rBuiltin rLen rClear clrW clrV rCopy cpyB cpyV rMax rMin; repeat' split
  all_goals first | exact nc_append | exact nc_lenI | trivial
theorem nc_res {T : Nat → Option TI} {F : Nat → Bool} {t : List SV} {h : HS} {o : Oper} (hc : (match o.op with | .call c => (match c.callee with | .builtin _ => true | _ => false) | _ => true) = true) : nc (opRes T F t h o) := by
  obtain ⟨dst, op, type, pos, aft, guard⟩ := o
  cases op <;> simp only [opRes]
  case move x => unfold rMove; repeat' split
                 all_goals trivial
  case assign x => unfold rMove; repeat' split
                   all_goals trivial
  case pick => unfold rPick; split <;> trivial
  case nilCheck => unfold rNil; split <;> trivial
  case alloc => split <;> first | (unfold rAlloc; trivial) | trivial
  case box => exact nc_box
  case build => unfold rBuild fin2; repeat' split
                all_goals trivial
  case buildSlice => unfold rBuildSlice fin3; repeat' split
                     all_goals trivial
  case load => unfold rLoad; repeat' split
               all_goals trivial
  case store => split <;> first | exact nc_storeN | trivial
  case binOp => exact nc_bin3
  case unOp => unfold rUn; split <;> trivial
  case convert => unfold rConv; repeat' split
                  all_goals trivial
  case makeInterface => unfold rIface; repeat' split
                        all_goals trivial
  case makeFunc => unfold rFunc; repeat' split
                   all_goals trivial
  case makeSlice => unfold rMake; repeat' split
                    all_goals trivial
  case slice =>
    have ha : ∀ (n : Nat) (te : TI) (x : SV) (lo hi mx : Option SV), nc (rSlA n te x lo hi mx h) := fun n te x lo hi mx => by
      unfold rSlA; repeat' split
      all_goals trivial
    repeat' split
    all_goals first | exact nc_sl | exact ha _ _ _ _ _ _ | trivial
  case fieldAddr => unfold rField; repeat' split
                    all_goals trivial
  case indexAddr => unfold rIndex; repeat' split
                    all_goals trivial
  case typeAssert => unfold rAssert; repeat' split
                     all_goals trivial
  case extract => unfold rExtract; split <;> trivial
  case call c =>
    obtain ⟨callee, args, tys⟩ := c
    cases callee with
    | builtin b => exact nc_builtin
    | value f => cases hc
    | invoke r m => trivial
  case panic => unfold rPanic; split <;> trivial
  case makeMap ty n =>
    have hm : ∀ o, nc (mMk T h o) := fun o => by
      unfold mMk mMk2 rMakeMap mkMp; repeat' split
      all_goals trivial
    cases n with
    | none => exact hm _
    | some _ => trivial
  case lookup => unfold mLk mLk2 rLookup rLookB gLook; repeat' split
                 all_goals trivial
  case mapUpdate => unfold mUp mUp2 rUpdate rUpdB; repeat' split
                    all_goals trivial
  case insert => unfold mUp mUp2 rUpdate rUpdB; repeat' split
                 all_goals trivial
  case range => unfold rRange rRangeM; repeat' split
                all_goals trivial
  case next x b =>
    have hm : ∀ x, nc (rNext x h) := fun x => by
      unfold rNext rNextI rNextM; repeat' split
      all_goals trivial
    cases b with
    | false => exact hm _
    | true => trivial
  case entry => unfold rEntry rEntI rEntM; repeat' split
                all_goals trivial
  case field => unfold mFd rFld; repeat' split
                all_goals trivial
  case index => unfold rIdx; repeat' split
                all_goals trivial
  all_goals trivial

theorem nc_ops {T : Nat → Option TI} {F : Nat → Bool} {t : List SV} {h : HS} {ops : Array Oper} (hf : callFree ops = true) {i : Nat} {o : Oper} (ho : ops[i]? = some o) : nc (opRes T F t h o) :=
  nc_res (by
    simp only [callFree, Array.all_eq_true_iff_forall_mem] at hf
    exact hf o (Array.mem_of_getElem? ho))
end Go.Eng
end

/- Regions whose order is drawn: one way through stands for all. -/
section
namespace Go.Eng
open Go.RowKit
set_option linter.unusedVariables false

section
variable (C : Ctx) (ops : Array Oper) (X : List SV → SV → HS → Prop)
def wantedO (t : List SV) (o : Oper) : Option Bool :=
  match o.guard with
  | none => some true
  | some (j, want) => match (ops[j]?).bind (·.dst) with
    | some d => match nth t d with
      | .bool q => some (q == want)
      | .tup [] => some false
      | _ => none
    | none => none
def exR (r : Res) (dst : Option Nat) (K : List SV → HS → Prop) (t : List SV) (h : HS) : Prop :=
  match r with
  | .val p v h' => p ∧ K (put t dst v) h'
  | .skip p h' => p ∧ K (put t dst .any) h'
  | .call g args => CallsS C.P g args h (outK K X t dst)
  | .callN p g args h' => p ∧ CallsS C.P g args h' (outK K X t dst)
  | .round nm rf rt assign body => RoundS C.P nm rf rt assign body h (fun v h' => K (put t dst v) h')
  | _ => False
def exO (o : Oper) (K : List SV → HS → Prop) (t : List SV) (h : HS) : Prop :=
  match wantedO ops t o with
  | some true => exR C X (opRes C.T C.F t h o) o.dst K t h
  | some false => K (put t o.dst (.tup [])) h
  | none => False
def quO (o : Oper) (t : List SV) (h : HS) (v : SV) : Prop :=
  (wantedO ops t o = some true ∧ ∃ p, resQ C.G (opRes C.T C.F t h o) h = some (p, v) ∧ p) ∨ (wantedO ops t o = some false ∧ v = .tup [])
def reE (k : Nat) (t : List SV) (h : HS) : Prop :=
  ∃ o, ops[k]? = some o ∧ (wantedO ops t o = some true → ∃ p v, resQ C.G (opRes C.T C.F t h o) h = some (p, v) ∧ p ∧ put t o.dst v = t)
def anyE (K : List SV → HS → Prop) : Nat → Array Bool → List Nat → List SV → HS → Prop
  | 0, l, pd, t, h => (∀ k ∈ pd, reE C ops k t h) ∧ (Region.ready .any ops l = [] ∧ K t h)
  | n + 1, l, pd, t, h => (∀ k ∈ pd, reE C ops k t h) ∧ (Region.ready .any ops l = [] → K t h) ∧
    ∀ j ∈ Region.ready .any ops l, ∀ o, ops[j]? = some o → exO C ops X o (anyE K n (l.setIfInBounds j true) (pd.filter fun k => !bef ops j k)) t h
end

section
variable {C : Ctx} {ops : Array Oper} {X : List SV → SV → HS → Prop}

theorem outK_mono {K K' : List SV → HS → Prop} {t : List SV} {dst : Option Nat} (h : ∀ u h', K (put t dst u) h' → K' (put t dst u) h') (o : Out) (h' : HS) (hk : outK K X t dst o h') : outK K' X t dst o h' := by
  cases o with
  | ret v => exact h v h' hk
  | pan v => exact hk
  | fin _ _ => exact hk
  | stop _ _ => exact hk
  | rnd _ => exact hk
theorem CallsS.mono {P : Program} {g : Nat} {args : List SV} {h : HS} {K K' : Out → HS → Prop} (hc : CallsS P g args h K) (hk : ∀ o h', K o h' → K' o h') : CallsS P g args h K' := by
  intro E w vals hr hd
  refine (hc E w vals hr hd).mono ?_
  rintro e w' ⟨o, h', E', h1, h2⟩
  exact ⟨o, h', E', hk o h' h1, h2⟩
theorem RoundS.mono {P : Program} {nm rf : Nat} {rt : List SV} {assign body : Code} {h : HS} {K K' : SV → HS → Prop} (hc : RoundS P nm rf rt assign body h K) (hk : ∀ v h', K v h' → K' v h') : RoundS P nm rf rt assign body h K' := by
  intro E w tmps c cs hr hd hn
  obtain ⟨v, val, h', E', w', q1, q2, q3⟩ := hc E w tmps c cs hr hd hn
  exact ⟨v, val, h', E', w', q1, hk _ _ q2, q3⟩
theorem exO_mono {o : Oper} {K K' : List SV → HS → Prop} {t : List SV} {h : HS} (hk : ∀ u h', K (put t o.dst u) h' → K' (put t o.dst u) h') (he : exO C ops X o K t h) : exO C ops X o K' t h := by
  unfold exO at he ⊢
  split at he
  · unfold exR at he ⊢
    split at he
    · exact ⟨he.1, hk _ _ he.2⟩
    · exact ⟨he.1, hk _ _ he.2⟩
    · exact he.mono (outK_mono hk)
    · exact ⟨he.1, he.2.mono (outK_mono hk)⟩
    · exact he.mono (fun v h' => hk v h')
    · exact he.elim
  · exact hk _ _ he
  · exact he.elim

theorem wantedO_put {o : Oper} {t : List SV} {dst : Option Nat} {v : SV} (h : ∀ d, dst = some d → d ∉ o.looksAt ops) : wantedO ops (put t dst v) o = wantedO ops t o := by
  cases dst with
  | none => rfl
  | some d =>
    have hd := h d rfl
    unfold wantedO
    cases hg : o.guard with
    | none => rfl
    | some gw =>
      obtain ⟨g, want⟩ := gw
      simp only
      cases ht : (ops[g]?).bind (·.dst) with
      | none => rfl
      | some e =>
        have hne : e ≠ d := fun e' => hd (by subst e'; simp [Oper.looksAt, hg, ht])
        simp only [put, nth_upd_ne t d e v hne]
theorem opRes_put {o : Oper} {t : List SV} {dst : Option Nat} {v : SV} {h : HS} (hl : ∀ d, dst = some d → d ∉ o.looksAt ops) : opRes C.T C.F (put t dst v) h o = opRes C.T C.F t h o := by
  cases dst with
  | none => rfl
  | some d => exact opRes_congr _ _ h o (fun x hx => ev_upd (looks_op hx (hl d rfl)))
theorem put_comm {t : List SV} {a b : Option Nat} {v u : SV} (h : ∀ d, a = some d → b ≠ some d) : put (put t a v) b u = put (put t b u) a v := by
  cases a with
  | none => rfl
  | some d => cases b with
    | none => rfl
    | some e => exact upd_comm t d e v u (fun e' => h d rfl (by rw [e']))
theorem put_put {t : List SV} {a : Option Nat} {v u : SV} : put (put t a v) a u = put t a u := by
  cases a with
  | none => rfl
  | some d => exact upd_upd t d v u
theorem put_inj {t : List SV} {a b : Option Nat} {v u : SV} (h : ∀ d, a = some d → b ≠ some d) (he : put (put t a v) b u = put t a v) : put t b u = t := by
  cases b with
  | none => rfl
  | some e => cases a with
    | none => exact he
    | some d => exact upd_inj t d e v u (fun e' => h d rfl (by rw [e'])) he

theorem exO_swap {o : Oper} {dst : Option Nat} {v : SV} {K : List SV → HS → Prop} {t : List SV} {h : HS} (h1 : ∀ d, dst = some d → d ∉ o.looksAt ops) (h2 : ∀ d, dst = some d → o.dst ≠ some d) (hX : (∀ t u h, X (put t dst v) u h → X t u h) ∨ nc (opRes C.T C.F t h o))
    (he : exO C ops X o K (put t dst v) h) : exO C ops X o (fun t' h' => K (put t' dst v) h') t h := by
  unfold exO at he ⊢
  rw [wantedO_put h1] at he
  split at he
  · rw [opRes_put h1] at he
    unfold exR at he ⊢
    split at he
    · simp only; rw [← put_comm h2]; exact he
    · simp only; rw [← put_comm h2]; exact he
    · rename_i hres
      have hX := hX.resolve_right (by rw [hres]; exact id)
      refine CallsS.mono he ?_
      intro o' h' hk
      cases o' with
      | ret u => simp only [outK] at hk ⊢; rw [← put_comm h2]; exact hk
      | pan u => exact hX _ _ _ hk
      | fin _ _ => exact hk
      | stop _ _ => exact hk
      | rnd _ => exact hk
    · rename_i hres
      have hX := hX.resolve_right (by rw [hres]; exact id)
      refine ⟨he.1, CallsS.mono he.2 ?_⟩
      intro o' h' hk
      cases o' with
      | ret u => simp only [outK] at hk ⊢; rw [← put_comm h2]; exact hk
      | pan u => exact hX _ _ _ hk
      | fin _ _ => exact hk
      | stop _ _ => exact hk
      | rnd _ => exact hk
    · refine RoundS.mono he ?_
      intro u h' hk
      simp only at hk ⊢; rw [← put_comm h2]; exact hk
    · exact he.elim
  · rw [← put_comm h2]; exact he
  · exact he.elim

theorem exO_of_quO (hC : CtxOk C) {o : Oper} {K : List SV → HS → Prop} {t : List SV} {h : HS} {v : SV} (hq : quO C ops o t h v) (hk : K (put t o.dst v) h) : exO C ops X o K t h := by
  unfold exO
  rcases hq with ⟨hw, p, hr, hp⟩ | ⟨hw, rfl⟩
  · rw [hw]
    simp only
    unfold exR
    unfold resQ at hr
    split at hr
    · rename_i p' v' h' hres
      cases hr
      obtain ⟨hp, rfl⟩ := hp
      rw [hres]
      exact ⟨hp, hk⟩
    · rename_i g args hres
      split at hr
      · rename_i f hG
        rw [hres]
        unfold quietR at hr
        split at hr
        · rename_i p1 v1 h1 hf
          cases hr
          obtain ⟨hp, rfl⟩ := hp
          refine CallsS.mono (hC.G g f hG args h1 p1 _ _ hf hp) ?_
          rintro o' h' ⟨rfl, rfl⟩
          exact hk
        · cases hr
      · cases hr
    · cases hr
  · rw [hw]; exact hk

theorem anyE_less {K : List SV → HS → Prop} : ∀ (n : Nat) {l : Array Bool} {pd pd' : List Nat} {t : List SV} {h : HS}, (∀ k ∈ pd', k ∈ pd) → anyE C ops X K n l pd t h → anyE C ops X K n l pd' t h
  | 0, l, pd, pd', t, h, hs, ha => ⟨fun k hk => ha.1 k (hs k hk), ha.2⟩
  | n + 1, l, pd, pd', t, h, hs, ha => ⟨fun k hk => ha.1 k (hs k hk), ha.2.1, fun j hj o ho => exO_mono (fun u h' hx => anyE_less n (fun k hk => by
      rw [List.mem_filter] at hk ⊢
      exact ⟨hs k hk.1, hk.2⟩) hx) (ha.2.2 j hj o ho)⟩

/- ### the order -/
def Down (ops : Array Oper) (l : Array Bool) : Prop := l.size = ops.size ∧ ∀ j o, ops[j]? = some o → l.getD j false = true → ∀ e ∈ o.after, Region.binds .any e = true → l.getD e.on false = true
theorem Down.set {l : Array Bool} (h : Down ops l) {i : Nat} (hi : i ∈ Region.ready .any ops l) : Down ops (l.setIfInBounds i true) := by
  obtain ⟨h0, oi, hoi, hall⟩ := mem_ready.1 hi
  refine ⟨by simp [h.1], fun j o ho hj e he hb => ?_⟩
  by_cases hij : i = j
  · subst hij
    rw [hoi] at ho; cases ho
    exact getD_set_true (hall e he hb)
  · rw [getD_set_ne false hij] at hj
    exact getD_set_true (h.2 j o ho hj e he hb)
theorem befGo_listed {l : Array Bool} (h : Down ops l) (k : Nat) : ∀ (os : List Oper) (i m : Nat), (∀ a o, os[a]? = some o → ops[i + a]? = some o) → (∀ j, m.testBit j = true → (l.getD j false = true ∨ j ∈ Region.ready .any ops l) → l.getD k false = true) →
    ∀ j, (befGo k os i m).testBit j = true → (l.getD j false = true ∨ j ∈ Region.ready .any ops l) → l.getD k false = true
  | [], _, _, _, hm, j, hb, hj => hm j hb hj
  | o :: os, i, m, ho, hm, j, hb, hj => by
    simp only [befGo] at hb
    refine befGo_listed h k os (i + 1) _ (fun a o' ha => by have := ho (a + 1) o' (by simpa using ha); rw [show i + 1 + a = i + (a + 1) by omega]; exact this) ?_ j hb hj
    intro j' hb' hj'
    split at hb'
    · rename_i hany
      rw [Nat.testBit_or, Bool.or_eq_true, Nat.one_shiftLeft, Nat.testBit_two_pow] at hb'
      rcases hb' with hb' | hb'
      · exact hm j' hb' hj'
      · have hij : i = j' := by simpa using hb'
        subst hij
        obtain ⟨e, he, hbe⟩ := Array.any_eq_true'.1 hany
        simp only [Bool.and_eq_true, Bool.or_eq_true, beq_iff_eq] at hbe
        have ho0 : ops[i]? = some o := by have := ho 0 o (by simp); simpa using this
        have hl : l.getD e.on false = true := by
          rcases hj' with hj' | hj'
          · exact h.2 i o ho0 hj' e he hbe.1
          · obtain ⟨_, o', ho', hall⟩ := mem_ready.1 hj'
            rw [ho0] at ho'; cases ho'
            exact hall e he hbe.1
        rcases hbe.2 with hk | hk
        · subst hk; exact hl
        · exact hm e.on hk (.inl hl)
    · exact hm j' hb' hj'
theorem befF_listed {l : Array Bool} (h : Down ops l) (j k : Nat) (hb : bef ops j k = true) (hj : l.getD j false = true ∨ j ∈ Region.ready .any ops l) : l.getD k false = true := by
  refine befGo_listed h k _ _ 0 ?_ (by simp) j hb hj
  intro a o ha
  rw [List.getElem?_drop, List.getElem?_take] at ha
  split at ha
  · simpa using ha
  · cases ha
theorem unlisted {l : Array Bool} {i : Nat} (hl : l.size = ops.size) (h : i ∈ Region.ready .any ops l) : l.getD i false = false := by
  have h0 := (mem_ready.1 h).1
  by_cases hi : i < l.size
  · simpa [hi] using h0
  · simp [Array.getElem?_eq_none (Nat.le_of_not_lt hi)]

structure Ssa (ops : Array Oper) : Prop where
  dst : ∀ (a b : Nat) (oa ob : Oper) (d : Nat), ops[a]? = some oa → ops[b]? = some ob → a ≠ b → oa.dst = some d → ob.dst ≠ some d
  look : ∀ (a b : Nat) (oa ob : Oper) (d : Nat), ops[a]? = some oa → ops[b]? = some ob → oa.dst = some d → d ∈ ob.looksAt ops → a ≠ b ∧ (bef ops b a = true ∨ (bef ops a b = true ∧ flat ob = true))
theorem ssaOk_spec (h : ssaOk ops = true) : Ssa ops := by
  have key : ∀ (a b : Nat) (oa ob : Oper) (d : Nat), ops[a]? = some oa → ops[b]? = some ob → oa.dst = some d →
      (a = b ∨ ob.dst ≠ some d) ∧ (d ∈ ob.looksAt ops → a ≠ b ∧ (bef ops b a = true ∨ (bef ops a b = true ∧ flat ob = true))) := by
    intro a b oa ob d ha hb hd
    unfold ssaOk at h
    rw [List.all_eq_true] at h
    have h1 := h a (List.mem_range.2 (Array.getElem?_eq_some_iff.1 ha).1)
    simp only [ha, hd, List.all_eq_true] at h1
    have h2 := h1 b (List.mem_range.2 (Array.getElem?_eq_some_iff.1 hb).1)
    simp only [hb, Bool.and_eq_true, Bool.or_eq_true, beq_iff_eq, bne_iff_ne, Bool.not_eq_true'] at h2
    refine ⟨h2.1, fun hm => ?_⟩
    rcases h2.2 with h3 | h3
    · rw [List.contains_eq_mem] at h3; simp [hm] at h3
    · exact h3
  exact ⟨fun a b oa ob d ha hb hne hd => (key a b oa ob d ha hb hd).1.resolve_left hne, fun a b oa ob d ha hb hd hm => (key a b oa ob d ha hb hd).2 hm⟩

/-- A quiet operation that is ready may go first. -/
theorem anyE_first (hC : CtxOk C) (hS : Ssa ops) {K : List SV → HS → Prop} {i : Nat} {oi : Oper} (hi : ops[i]? = some oi) (hX : (∀ t v u h, X (put t oi.dst v) u h → X t u h) ∨ callFree ops = true) : ∀ (n : Nat) (l : Array Bool) (pd : List Nat) (t : List SV) (h : HS) (v : SV),
    Down ops l → (∀ k ∈ pd, l.getD k false = true ∧ flatAt ops k = false) → i ∈ Region.ready .any ops l → quO C ops oi t h v →
    anyE C ops X K n (l.setIfInBounds i true) (if flatAt ops i then pd else i :: pd) (put t oi.dst v) h → anyE C ops X K (n + 1) l pd t h := by
  have noSelf : ∀ d, oi.dst = some d → d ∉ oi.looksAt ops := fun d hd hm => (hS.look i i oi oi d hi hi hd hm).1 rfl
  have hdown : ∀ (n : Nat) {l : Array Bool} {pd : List Nat} {t : List SV} {h : HS}, anyE C ops X K n l pd t h → ∀ k ∈ pd, reE C ops k t h := fun n => by cases n <;> exact fun ha => ha.1
  -- what stood checked stays checked when i is put back
  have back : ∀ {l : Array Bool} {pd : List Nat} {t : List SV} {h : HS} {v : SV}, Down ops l → (∀ k ∈ pd, l.getD k false = true ∧ flatAt ops k = false) → i ∈ Region.ready .any ops l →
      (∀ k ∈ pd, reE C ops k (put t oi.dst v) h) → ∀ k ∈ pd, reE C ops k t h := by
    intro l pd t h v hd hp hr hre k hk
    obtain ⟨ok, hok, hw⟩ := hre k hk
    obtain ⟨hkl, hkf⟩ := hp k hk
    have hik := unlisted hd.1 hr
    have hne : i ≠ k := fun e => by subst e; rw [hik] at hkl; cases hkl
    have hlook : ∀ d, oi.dst = some d → d ∉ ok.looksAt ops := fun d hd' hm => by
      rcases (hS.look i k oi ok d hi hok hd' hm).2 with hb | ⟨_, hf⟩
      · have := befF_listed hd k i hb (.inl hkl); rw [hik] at this; cases this
      · simp [flatAt, hok, hf] at hkf
    refine ⟨ok, hok, fun hwt => ?_⟩
    obtain ⟨p, u, h1, h2, h3⟩ := hw (by rw [wantedO_put hlook]; exact hwt)
    rw [opRes_put hlook] at h1
    exact ⟨p, u, h1, h2, put_inj (fun d hd' => hS.dst i k oi ok d hi hok hne hd') h3⟩
  intro n
  induction n with
  | zero =>
    intro l pd t h v hd hp hr hq H
    have hH : ∀ k ∈ pd, reE C ops k (put t oi.dst v) h := fun k hk => hdown 0 H k (by split <;> simp [hk])
    refine ⟨back hd hp hr hH, fun h0 => (by rw [h0] at hr; cases hr), fun j hj o ho => ?_⟩
    by_cases hji : j = i
    · subst hji
      rw [hi] at ho; cases ho
      refine exO_of_quO hC hq (anyE_less 0 (fun k hk => ?_) H)
      rw [List.mem_filter] at hk
      split <;> simp [hk.1]
    · have := ready_mono hj hji
      rw [H.2.1] at this
      cases this
  | succ n ih =>
    intro l pd t h v hd hp hr hq H
    have hH : ∀ k ∈ pd, reE C ops k (put t oi.dst v) h := fun k hk => hdown _ H k (by split <;> simp [hk])
    refine ⟨back hd hp hr hH, fun h0 => (by rw [h0] at hr; cases hr), fun j hj o ho => ?_⟩
    by_cases hji : j = i
    · subst hji
      rw [hi] at ho; cases ho
      refine exO_of_quO hC hq (anyE_less _ (fun k hk => ?_) H)
      rw [List.mem_filter] at hk
      split <;> simp [hk.1]
    · have hij : i ≠ j := fun e => hji e.symm
      have uj := unlisted hd.1 hj
      have ui := unlisted hd.1 hr
      have bji : bef ops j i = false := by
        cases hb : bef ops j i
        · rfl
        · have := befF_listed hd j i hb (.inr hj); rw [ui] at this; cases this
      have bij : bef ops i j = false := by
        cases hb : bef ops i j
        · rfl
        · have := befF_listed hd i j hb (.inr hr); rw [uj] at this; cases this
      have l1 : ∀ d, oi.dst = some d → d ∉ o.looksAt ops := fun d hd' hm => by
        rcases (hS.look i j oi o d hi ho hd' hm).2 with hb | ⟨hb, _⟩
        · rw [bji] at hb; cases hb
        · rw [bij] at hb; cases hb
      have l2 : ∀ d, oi.dst = some d → o.dst ≠ some d := fun d hd' => hS.dst i j oi o d hi ho hij hd'
      have l3 : ∀ d, o.dst = some d → d ∉ oi.looksAt ops := fun d hd' hm => by
        rcases (hS.look j i o oi d ho hi hd' hm).2 with hb | ⟨hb, _⟩
        · rw [bij] at hb; cases hb
        · rw [bji] at hb; cases hb
      have hj1 := H.2.2 j (ready_mono hj hji) o ho
      have hj2 := exO_swap l1 l2 (hX.elim (fun hX => .inl (fun t u h => hX t v u h)) (fun hf => .inr (nc_ops hf ho))) hj1
      refine exO_mono (fun u h' hx => ?_) hj2
      have hcm : (l.setIfInBounds i true).setIfInBounds j true = (l.setIfInBounds j true).setIfInBounds i true := Array.setIfInBounds_comm _ _ hij
      rw [hcm] at hx
      have hfil : ((if flatAt ops i then pd else i :: pd).filter fun k => !bef ops j k) = if flatAt ops i then (pd.filter fun k => !bef ops j k) else i :: (pd.filter fun k => !bef ops j k) := by
        split
        · rfl
        · rw [List.filter_cons]; simp [bji]
      rw [hfil] at hx
      have hwt : wantedO ops (put t o.dst u) oi = wantedO ops t oi := wantedO_put l3
      have hrs : ∀ h, opRes C.T C.F (put t o.dst u) h oi = opRes C.T C.F t h oi := fun h => opRes_put l3
      have hd' := hd.set hj
      have hp' : ∀ k ∈ (pd.filter fun k => !bef ops j k), (l.setIfInBounds j true).getD k false = true ∧ flatAt ops k = false := fun k hk => by
        rw [List.mem_filter] at hk
        exact ⟨getD_set_true (hp k hk.1).1, (hp k hk.1).2⟩
      have hr' := ready_mono hr hij
      -- what i gives there
      rcases hq with ⟨hw, p, hres, hpp⟩ | ⟨hw, rfl⟩
      · by_cases hf : flatAt ops i = true
        · have hfo : flat oi = true := by simpa [flatAt, hi] using hf
          obtain ⟨p', h1, h2⟩ := flat_res C.T C.F t hfo C.G h h' hres hpp
          exact ih _ _ _ h' v hd' hp' hr' (.inl ⟨by rw [hwt]; exact hw, p', by rw [hrs]; exact h1, h2⟩) hx
        · simp only [hf, Bool.false_eq_true, if_false] at hx
          obtain ⟨ok, hok, hwk⟩ := hdown _ hx i (by simp)
          rw [hi] at hok; cases hok
          obtain ⟨p', v', h1, h2, h3⟩ := hwk (by rw [wantedO_put noSelf, hwt]; exact hw)
          rw [opRes_put noSelf] at h1
          rw [put_put] at h3
          rw [← h3] at hx
          exact ih _ _ _ h' v' hd' hp' hr' (.inl ⟨by rw [hwt]; exact hw, p', h1, h2⟩) (by simp only [hf, Bool.false_eq_true, if_false]; exact hx)
      · exact ih _ _ _ h' (.tup []) hd' hp' hr' (.inr ⟨by rw [hwt]; exact hw, rfl⟩) hx
end
end Go.Eng
end

/- Regions whose order is drawn: the plan stands for every order, and every order runs. -/
section
namespace Go.Eng
open Go.RowKit
set_option linter.unusedVariables false

section
variable {C : Ctx} {ops : Array Oper} {X : List SV → SV → HS → Prop} {Q : Out → HS → Prop} {R R0 : Rn}

theorem reS1_ok {C : Ctx} {o : Oper} {t : List SV} {h : HS} (hr : reS1 (resQ C.G (opRes C.T C.F t h o) h) o.dst t) : ∃ p v, resQ C.G (opRes C.T C.F t h o) h = some (p, v) ∧ p ∧ put t o.dst v = t := by
  generalize hres : resQ C.G (opRes C.T C.F t h o) h = r at hr
  generalize hd : o.dst = dst at hr ⊢
  unfold reS1 at hr
  split at hr
  · obtain ⟨hp, rfl⟩ := hr; exact ⟨_, _, rfl, hp, upd_nth t _⟩
  · exact ⟨_, _, rfl, hr, rfl⟩
  · exact hr.elim
theorem reO_ok {t : List SV} {h : HS} {k : Nat} (hr : reO C ops t h (getO ops.toList k)) : reE C ops k t h := by
  unfold reO at hr
  split at hr
  · rename_i dst op ty pos aft ho
    rw [getO_eq, Array.getElem?_toList] at ho
    exact ⟨_, ho, fun _ => reS1_ok (o := ⟨dst, op, ty, pos, aft, none⟩) hr⟩
  · rename_i dst op ty pos aft j want ho
    rw [getO_eq, Array.getElem?_toList] at ho
    split at hr
    · rename_i d _ _ _ _ _ hj
      rw [getO_eq, Array.getElem?_toList] at hj
      unfold reG at hr
      split at hr
      · rename_i b hb
        refine ⟨_, ho, fun hw => ?_⟩
        simp only [wantedO, hj, Option.bind_some, hb, Option.some.injEq, beq_iff_eq] at hw
        subst hw
        exact reS1_ok (o := ⟨dst, op, ty, pos, aft, some (j, b)⟩) (by unfold reW at hr; cases b <;> exact hr)
      · rename_i hb
        exact ⟨_, ho, fun hw => by simp [wantedO, hj, hb] at hw⟩
      · exact hr.elim
    · exact hr.elim
  · exact hr.elim
theorem reA_ok {t : List SV} {h : HS} : ∀ {re : List Nat}, reA C ops t h re → ∀ k ∈ re, reE C ops k t h
  | [], _, k, hk => by cases hk
  | x :: l, hr, k, hk => by
    simp only [reA] at hr
    rcases List.mem_cons.1 hk with rfl | hk
    · exact reO_ok hr.1
    · exact reA_ok hr.2 k hk

theorem goP_quiet {o : Oper} {S : List SV → HS → Prop} {t : List SV} {h : HS} (hg : goP C R0 X true o S t h) : ∃ v p, resQ C.G (opRes C.T C.F t h o) h = some (p, v) ∧ p ∧ S (put t o.dst v) h := by
  simp only [goP, qGo] at hg
  split at hg
  · rename_i p v hr; exact ⟨v, p, hr, hg.1, hg.2⟩
  · exact hg.elim
theorem lCall_ok (hC : CtxOk C) (hN : Nests C R0) {g : Nat} {args : List SV} {dst : Option Nat} {S : List SV → HS → Prop} {t : List SV} {h : HS} (hg : lCall C R0 X (C.G g) (C.inl g) g args dst S t h) : CallsS C.P g args h (outK S X t dst) := by
  unfold lCall at hg
  split at hg
  · rename_i f hG
    unfold aGo at hg
    split at hg
    · rename_i p v h1 hf
      refine CallsS.mono (hC.G g f hG args h p v h1 hf hg.1) ?_
      rintro o' h' ⟨rfl, rfl⟩
      exact hg.2
    · exact hg.elim
  · unfold nestS at hg
    split at hg
    · rename_i fn hFN
      split at hg
      · rename_i c hb; exact hN g fn c args h _ hFN hb hg
      · exact hg.elim
    · exact hg.elim
  · exact hg
theorem goP_loud (hC : CtxOk C) (hN : Nests C R0) {o : Oper} {S : List SV → HS → Prop} {t : List SV} {h : HS} (hg : goP C R0 X false o S t h) : exR C X (opRes C.T C.F t h o) o.dst S t h := by
  simp only [goP, lGo] at hg
  unfold exR
  split at hg
  · rename_i hr; rw [hr]; exact hg
  · rename_i hr; rw [hr]; exact hg
  · rename_i g args hr
    rw [hr]
    exact lCall_ok hC hN hg
  · rename_i p g args h1 hr
    rw [hr]
    exact ⟨hg.1, lCall_ok hC hN hg.2⟩
  · rename_i hr; rw [hr]; exact hg
  · exact hg.elim
theorem gate_sem {quiet : Bool} {i : Nat} {S : List SV → HS → Prop} {t : List SV} {h : HS} (hg : gate C R0 X ops quiet (getO ops.toList i) S t h) :
    ∃ o, ops[i]? = some o ∧ ((wantedO ops t o = some true ∧ goP C R0 X quiet o S t h) ∨ (wantedO ops t o = some false ∧ S (put t o.dst (.tup [])) h)) := by
  unfold gate at hg
  split at hg
  · rename_i dst op ty pos aft ho
    rw [getO_eq, Array.getElem?_toList] at ho
    exact ⟨_, ho, .inl ⟨rfl, hg⟩⟩
  · rename_i dst op ty pos aft j want ho
    rw [getO_eq, Array.getElem?_toList] at ho
    split at hg
    · rename_i d _ _ _ _ _ hj
      rw [getO_eq, Array.getElem?_toList] at hj
      refine ⟨_, ho, ?_⟩
      unfold gateG at hg
      split at hg
      · rename_i q hq
        have hw : wantedO ops t ⟨dst, op, ty, pos, aft, some (j, want)⟩ = some (q == want) := by
          simp only [wantedO, hj, Option.bind_some, hq]
        rw [hw]
        have hu : ∀ b, q = b → upd t d (.bool b) = t := fun b hb => by rw [← hb, ← hq]; exact upd_nth t d
        cases q with
        | true =>
          have := hg.1 rfl
          rw [hu true rfl] at this
          unfold gateW at this
          cases want with
          | true => exact .inl ⟨rfl, this⟩
          | false => exact .inr ⟨rfl, this⟩
        | false =>
          have := hg.2 rfl
          rw [hu false rfl] at this
          unfold gateW at this
          cases want with
          | true => exact .inr ⟨rfl, this⟩
          | false => exact .inl ⟨rfl, this⟩
      · rename_i hq
        exact .inr ⟨by simp [wantedO, hj, hq], hg⟩
      · exact hg.elim
    · exact hg.elim
  · exact hg.elim

theorem anyE_done {K : List SV → HS → Prop} {l : Array Bool} {pd : List Nat} {t : List SV} {h : HS} (hr : Region.ready .any ops l = []) (hre : ∀ k ∈ pd, reE C ops k t h) (hk : K t h) : ∀ n, anyE C ops X K n l pd t h
  | 0 => ⟨hre, hr, hk⟩
  | _ + 1 => ⟨hre, fun _ => hk, by rw [hr]; simp⟩

theorem okP_zero : ∀ (p : Plan) (l : Array Bool) (pd : List Nat), okP ops false p 0 l pd = false
  | .done, l, pd => by simp [okP]
  | .quiet i p, l, pd => by simp [okP]
  | .loud i re p, l, pd => by simp [okP]
  | .both p q, l, pd => by simp [okP, okP_zero p]

theorem plan_any (hX : (∀ (i : Nat) (o : Oper), ops[i]? = some o → ∀ t v u h, X (put t o.dst v) u h → X t u h) ∨ callFree ops = true) (hC : CtxOk C) (hS : Ssa ops) (hN : Nests C R0) {fid : Nat} {k : List It} {fs : List Fr} : ∀ (p : Plan) (top : Bool) (n : Nat) (l : Array Bool) (pd : List Nat) (t : List SV) (h : HS),
    okP ops top p n l pd = true → Down ops l → (∀ k ∈ pd, l.getD k false = true ∧ flatAt ops k = false) → (∀ k ∈ pd, reE C ops k t h) → planS C R R0 X Q fid ops k fs p t h →
    (top = true → anyE C ops X (fun t h => R fid k t fs h Q) n l pd t h) ∧
    (∀ m, n = m + 1 → ∀ j ∈ firsts p, j ∈ Region.ready .any ops l → ∀ o, ops[j]? = some o → exO C ops X o (anyE C ops X (fun t h => R fid k t fs h Q) m (l.setIfInBounds j true) (pd.filter fun k => !bef ops j k)) t h)
  | .done, top, n, l, pd, t, h, hok, hd, hp, hre, hrun => by
    simp only [okP, Bool.and_eq_true, List.isEmpty_iff] at hok
    simp only [planS] at hrun
    exact ⟨fun _ => anyE_done hok.2 hre hrun n, fun m hm j hj => by simp [firsts] at hj⟩
  | .quiet i p, top, 0, l, pd, t, h, hok, hd, hp, hre, hrun => by simp [okP] at hok
  | .quiet i p, top, n + 1, l, pd, t, h, hok, hd, hp, hre, hrun => by
    simp only [okP, Bool.and_eq_true, List.contains_eq_mem, decide_eq_true_eq] at hok
    obtain ⟨⟨ht, hir⟩, hok'⟩ := hok
    simp only [planS] at hrun
    obtain ⟨oi, hoi, hcase⟩ := gate_sem hrun
    have hq : ∃ v, quO C ops oi t h v ∧ planS C R R0 X Q fid ops k fs p (put t oi.dst v) h := by
      rcases hcase with ⟨hw, hg⟩ | ⟨hw, hg⟩
      · obtain ⟨v, p', h1, h2, h3⟩ := goP_quiet hg
        exact ⟨v, .inl ⟨hw, p', h1, h2⟩, h3⟩
      · exact ⟨.tup [], .inr ⟨hw, rfl⟩, hg⟩
    obtain ⟨v, hqu, hrun'⟩ := hq
    have ui := unlisted hd.1 hir
    have noSelf : ∀ d, oi.dst = some d → d ∉ oi.looksAt ops := fun d hd' hm => (hS.look i i oi oi d hoi hoi hd' hm).1 rfl
    have hsz : i < l.size := by rw [hd.1]; exact (Array.getElem?_eq_some_iff.1 hoi).1
    have hre' : ∀ k ∈ (if flatAt ops i then pd else i :: pd), reE C ops k (put t oi.dst v) h := by
      have old : ∀ k ∈ pd, reE C ops k (put t oi.dst v) h := by
        intro k hk
        obtain ⟨ok, hok, hw⟩ := hre k hk
        obtain ⟨hkl, hkf⟩ := hp k hk
        have hne : i ≠ k := fun e => by subst e; rw [ui] at hkl; cases hkl
        have hlook : ∀ d, oi.dst = some d → d ∉ ok.looksAt ops := fun d hd' hm => by
          rcases (hS.look i k oi ok d hoi hok hd' hm).2 with hb | ⟨_, hf⟩
          · have := befF_listed hd k i hb (.inl hkl); rw [ui] at this; cases this
          · simp [flatAt, hok, hf] at hkf
        refine ⟨ok, hok, fun hwt => ?_⟩
        obtain ⟨p', u, h1, h2, h3⟩ := hw (by rw [wantedO_put hlook] at hwt; exact hwt)
        refine ⟨p', u, by rw [opRes_put hlook]; exact h1, h2, ?_⟩
        rw [put_comm (fun d hd' => hS.dst i k oi ok d hoi hok hne hd'), h3]
      split
      · exact old
      · intro k hk
        rcases List.mem_cons.1 hk with rfl | hk
        · refine ⟨oi, hoi, fun hwt => ?_⟩
          rw [wantedO_put noSelf] at hwt
          rcases hqu with ⟨hw, p', h1, h2⟩ | ⟨hw, _⟩
          · exact ⟨p', v, by rw [opRes_put noSelf]; exact h1, h2, put_put⟩
          · rw [hw] at hwt; cases hwt
        · exact old k hk
    have hp' : ∀ k ∈ (if flatAt ops i then pd else i :: pd), (l.setIfInBounds i true).getD k false = true ∧ flatAt ops k = false := by
      have old : ∀ k ∈ pd, (l.setIfInBounds i true).getD k false = true ∧ flatAt ops k = false := fun k hk => ⟨getD_set_true (hp k hk).1, (hp k hk).2⟩
      split
      · exact old
      · rename_i hf
        intro k hk
        rcases List.mem_cons.1 hk with rfl | hk
        · exact ⟨by simp [hsz], by simpa using hf⟩
        · exact old k hk
    have ih := (plan_any hX hC hS hN p true n _ _ _ h hok' (hd.set hir) hp' hre' hrun').1 rfl
    exact ⟨fun _ => anyE_first hC hS hoi (hX.imp (fun hX => hX i oi hoi) id) n l pd t h v hd hp hir hqu ih, fun m hm j hj => by simp [firsts] at hj⟩
  | .loud i re p, top, 0, l, pd, t, h, hok, hd, hp, hre, hrun => by simp [okP] at hok
  | .loud i re p, top, n + 1, l, pd, t, h, hok, hd, hp, hre, hrun => by
    simp only [okP, Bool.and_eq_true, Bool.or_eq_true, Bool.not_eq_true', List.all_eq_true, beq_iff_eq, List.contains_eq_mem, decide_eq_true_eq] at hok
    obtain ⟨⟨htop, hfil⟩, hok'⟩ := hok
    simp only [planS] at hrun
    obtain ⟨oi, hoi, hcase⟩ := gate_sem hrun
    have hex : exO C ops X oi (thenS C ops re (planS C R R0 X Q fid ops k fs p)) t h := by
      unfold exO
      rcases hcase with ⟨hw, hg⟩ | ⟨hw, hg⟩
      · rw [hw]; exact goP_loud hC hN hg
      · rw [hw]; exact hg
    have main : i ∈ Region.ready .any ops l → exO C ops X oi (anyE C ops X (fun t h => R fid k t fs h Q) n (l.setIfInBounds i true) (pd.filter fun k => !bef ops i k)) t h := fun hir => by
      refine exO_mono (fun u h' hx => ?_) hex
      have hra := reA_ok hx.1
      refine (plan_any hX hC hS hN p true n _ _ _ h' hok' (hd.set hir) (fun k hk => ?_) (fun k hk => hra k (hfil k hk)) hx.2).1 rfl
      rw [List.mem_filter] at hk
      exact ⟨getD_set_true (hp k hk.1).1, (hp k hk.1).2⟩
    refine ⟨fun ht => ?_, fun m hm j hj hjr o ho => ?_⟩
    · rcases htop with h0 | ⟨hall, hin⟩
      · rw [ht] at h0; cases h0
      · refine ⟨hre, fun h0 => (by rw [h0] at hin; cases hin), fun j hj o ho => ?_⟩
        have := hall j hj
        subst this
        rw [hoi] at ho; cases ho
        exact main hj
    · simp only [firsts, List.mem_singleton] at hj
      subst hj
      rw [hoi] at ho; cases ho
      have : m = n := by omega
      subst this
      exact main hjr
  | .both p q, top, n, l, pd, t, h, hok, hd, hp, hre, hrun => by
    simp only [okP, Bool.and_eq_true, Bool.or_eq_true, Bool.not_eq_true', List.all_eq_true] at hok
    obtain ⟨⟨htop, hok1⟩, hok2⟩ := hok
    simp only [planS] at hrun
    have h1 := (plan_any hX hC hS hN p false n l pd t h hok1 hd hp hre hrun.1).2
    have h2 := (plan_any hX hC hS hN q false n l pd t h hok2 hd hp hre hrun.2).2
    have hboth : ∀ m, n = m + 1 → ∀ j ∈ firsts p ++ firsts q, j ∈ Region.ready .any ops l → ∀ o, ops[j]? = some o → exO C ops X o (anyE C ops X (fun t h => R fid k t fs h Q) m (l.setIfInBounds j true) (pd.filter fun k => !bef ops j k)) t h := fun m hm j hj hjr o ho => by
      rcases List.mem_append.1 hj with hj | hj
      · exact h1 m hm j hj hjr o ho
      · exact h2 m hm j hj hjr o ho
    refine ⟨fun ht => ?_, fun m hm j hj => hboth m hm j (by simpa only [firsts] using hj)⟩
    cases n with
    | zero => rw [okP_zero] at hok1; cases hok1
    | succ m =>
      rcases htop with h0 | ⟨hall, hne⟩
      · rw [ht] at h0; cases h0
      · exact ⟨hre, fun h0 => (by rw [h0] at hne; simp at hne), fun j hj o ho => hboth m rfl j (by simpa using hall j hj) hj o ho⟩

/- ### one order -/
def ordE (C : Ctx) (ops : Array Oper) (X : List SV → SV → HS → Prop) (K : List SV → HS → Prop) : List Nat → List SV → HS → Prop
  | [], t, h => K t h
  | i :: idx, t, h => match ops[i]? with
    | some o => exO C ops X o (ordE C ops X K idx) t h
    | none => False

theorem any_ord {K : List SV → HS → Prop} : ∀ (fuel : Nat) (tp : Nat) (l : Array Bool) (pd : List Nat) (t : List SV) (h : HS), anyE C ops X K fuel l pd t h → ordE C ops X K (Region.linearise.go .any ops fuel tp l []) t h := by
  intro fuel
  induction fuel with
  | zero => intro tp l pd t h ha; simpa [Region.linearise.go, ordE] using ha.2.2
  | succ fuel ih =>
    intro tp l pd t h ha
    obtain ⟨_, h0, h1⟩ := ha
    simp only [Region.linearise.go]
    change ordE C ops X K (match (Region.ready .any ops l)[tp % (Region.ready .any ops l).length]? with
      | some i => Region.linearise.go .any ops fuel (tp / (Region.ready .any ops l).length) (l.setIfInBounds i true) [i]
      | none => [].reverse) t h
    cases hi : (Region.ready .any ops l)[tp % (Region.ready .any ops l).length]? with
    | none =>
      have hnil : Region.ready .any ops l = [] := by
        cases hr : Region.ready .any ops l with
        | nil => rfl
        | cons x xs =>
          rw [hr] at hi
          have hlt : tp % (x :: xs).length < (x :: xs).length := Nat.mod_lt _ (by simp)
          simp at hi
          simp at hlt
          omega
      simpa [ordE] using h0 hnil
    | some i =>
      have him := List.mem_of_getElem? hi
      obtain ⟨_, o, ho, _⟩ := mem_ready.1 him
      simp only []
      rw [linearise_go_acc, List.reverse_singleton, List.singleton_append]
      simp only [ordE, ho]
      exact exO_mono (fun u h' hx => ih _ _ _ _ h' hx) (h1 i him o ho)
end

section
variable {C : Ctx} {cs : List Frame} {fid0 : Nat} {B : Bt} {E0 : Env} {w0 : World} {Q : Out → HS → Prop}

/-- The context that leaves every call as an obligation. -/
def bare (C : Ctx) : Ctx := { C with inl := fun _ => false, G := fun _ => none, rs := true }
theorem bare_ok (hC : CtxOk C) : CtxOk (bare C) := ⟨hC.T, hC.F, hC.FN, fun g f h => by simp [bare] at h, hC.mix⟩

theorem InvK_bare {C : Ctx} {cs : List Frame} {B : Bt} {E : Env} {w : World} {s u fid : Nat} {frs : List Frame} : ∀ {k : List It}, InvK (bare C) cs B E w s u fid frs k = InvK C cs B E w s u fid frs k
  | [] => rfl
  | .inv ι st μ i body :: k => by
    simp only [InvK, InvK_bare (k := k)]
    rfl
  | .code _ :: k => by simp only [InvK, InvK_bare (k := k)]
  | .blk _ :: k => by simp only [InvK, InvK_bare (k := k)]
  | .reg _ _ :: k => by simp only [InvK, InvK_bare (k := k)]
  | .inRng _ :: k => by simp only [InvK, InvK_bare (k := k)]
  | .endRng _ :: k => by simp only [InvK, InvK_bare (k := k)]
  | .beginR :: k => by simp only [InvK, InvK_bare (k := k)]
  | .aga _ :: k => by simp only [InvK, InvK_bare (k := k)]
  | .scp _ :: k => by simp only [InvK, InvK_bare (k := k)]
  | .endR _ :: k => by simp only [InvK]
theorem StkOk_bare {C : Ctx} {cs : List Frame} {B : Bt} {E : Env} {w : World} {s0 : Nat} : ∀ {s : Nat} {fs : List Fr} {frs : List Frame}, StkOk (bare C) cs B E w s0 s fs frs = StkOk C cs B E w s0 s fs frs
  | _, [], [] => by simp only [StkOk]
  | _, [], _ :: _ => by simp only [StkOk]
  | _, ⟨_, _, _⟩ :: _, [] => by simp only [StkOk]
  | s, ⟨fid, k, t⟩ :: fs, fr :: frs => by
    have ih : ∀ s', StkOk (bare C) cs B E w s0 s' fs frs = StkOk C cs B E w s0 s' fs frs := fun s' => StkOk_bare (s := s') (fs := fs) (frs := frs)
    simp only [StkOk, InvK_bare, ih]
    rfl

theorem exO_opS {ops : Array Oper} {i : Nat} {o : Oper} (ho : ops[i]? = some o) {K : List SV → HS → Prop} {R R0 : Rn} {fid : Nat} {idx : List Nat} {k : List It} {t : List SV} {fs : List Fr} {h : HS}
    (hK : ∀ t h, K t h → R fid (.reg ops idx :: k) t fs h Q) (he : exO C ops (panQ C.D Q) o K t h) : opS (bare C) R R0 (getO ops.toList i) fid ops i idx k t fs h Q := by
  have hex : ∀ {r : Res}, exR C (panQ C.D Q) r o.dst K t h → execS (bare C) R R0 r fid ops i idx o.dst k t fs h Q := by
    intro r hr
    unfold exR at hr
    unfold execS
    split at hr
    · exact ⟨hr.1, hK _ _ hr.2⟩
    · exact ⟨hr.1, hK _ _ hr.2⟩
    · simp only [bare, goS, callS]
      refine CallsS.mono hr ?_
      intro o' h' hk
      cases o' with
      | ret v => exact hK _ _ hk
      | pan v => exact hk
      | fin _ _ => exact hk
      | stop _ _ => exact hk
      | rnd _ => exact hk
    · simp only [bare, goS, callS]
      refine ⟨hr.1, CallsS.mono hr.2 ?_⟩
      intro o' h' hk
      cases o' with
      | ret v => exact hK _ _ hk
      | pan v => exact hk
      | fin _ _ => exact hk
      | stop _ _ => exact hk
      | rnd _ => exact hk
    · simp only [bare, roundS]
      exact RoundS.mono hr (fun v h' hk => hK _ _ hk)
    · exact hr.elim
  obtain ⟨dst, op, ty, pos, aft, guard⟩ := o
  rw [getO_eq, Array.getElem?_toList, ho]
  unfold exO at he
  cases guard with
  | none =>
    simp only [wantedO] at he
    exact hex he
  | some gw =>
    obtain ⟨j, want⟩ := gw
    simp only [wantedO] at he
    simp only [opS, guard1]
    rw [getO_eq, Array.getElem?_toList]
    cases hj : ops[j]? with
    | none => simp [hj] at he
    | some oj =>
      obtain ⟨dj, _, _, _, _, _⟩ := oj
      cases dj with
      | none => simp [hj] at he
      | some d =>
        simp only [hj, Option.bind_some] at he
        simp only
        cases hv : nth t d <;> simp only [hv] at he <;> try (exact he.elim)
        rotate_left
        · rename_i lt
          cases lt with
          | nil => simp only [guardS]; exact hK _ _ he
          | cons _ _ => exact he.elim
        rename_i q
        simp only [guardS]
        have hu : ∀ b, q = b → upd t d (.bool b) = t := fun b hb => by rw [← hb, ← hv]; exact upd_nth t d
        refine ⟨fun hq => ?_, fun hq => ?_⟩
        · rw [hu true hq]
          subst hq
          cases want with
          | true => exact hex he
          | false => exact hK _ _ he
        · rw [hu false hq]
          subst hq
          cases want with
          | true => exact hK _ _ he
          | false => exact hex he

theorem ord_goal (hC : CtxOk C) (hB : BtOk (bare C) cs fid0 B E0 w0 Q) {R R0 : Rn} (hN : Nests C R0) (hR : Sound C cs fid0 B E0 w0 Q R) {fid : Nat} {ops : Array Oper} {k : List It} {fs : List Fr} : ∀ (idx : List Nat),
    Sound (bare C) cs fid0 B E0 w0 Q (fun fid' k' t fs' h _ => (fid' = fid ∧ k' = .reg ops idx :: k ∧ fs' = fs) ∧ ordE C ops (panQ C.D Q) (fun t h => R fid k t fs h Q) idx t h)
  | [], fid', k', t, fs', h, hp, hfs, E, w, tmps, frs, s, ds, hd, hr, hs, hsw, hds, hkb, hi, hx, hb, hfn => by
    obtain ⟨⟨rfl, rfl, rfl⟩, hp⟩ := hp
    simp only [kb] at hkb
    exact Goal.step (stepR_region_end (b := base B (rnf E.rho k) fid') (a := ⟨tmps, ds⟩) (cs := frs ++ cs)) (hR _ _ _ _ _ hp hfs E w _ _ s ds hd hr (by rw [← StkOk_bare]; exact hs) hsw hds hkb (by simpa only [InvK, InvK_bare] using hi) hx hb hfn)
  | i :: idx, fid', k', t, fs', h, hp, hfs, E, w, tmps, frs, s, ds, hd, hr, hs, hsw, hds, hkb, hi, hx, hb, hfn => by
    obtain ⟨⟨rfl, rfl, rfl⟩, hp⟩ := hp
    simp only [ordE] at hp
    simp only [kb] at hkb
    split at hp
    · rename_i o ho
      exact opS_ok (bare_ok hC) hB (R0 := R0) hN (ord_goal hC hB hN hR idx) (exO_opS ho (fun t h hk => ⟨⟨rfl, rfl, rfl⟩, hk⟩) hp) hd hr hs hsw hds hkb (by simpa only [InvK] using hi) hx hb hfn hfs
    · exact hp.elim
end
end Go.Eng
end

/- The symbolic machine is right: the whole. -/
section
namespace Go.Eng
open Go.RowKit
set_option linter.unusedVariables false

section
variable {C : Ctx}
def Bt.std (P : Program) (fid0 : Nat) (cs : List Frame) (R1 : Ending → World → Prop) : Bt := { ds := [], kd := .normal, Fin := fun e m => ∃ fr w, m = lone fr cs w ∧ R1 e w ∧ fr.fn = fid0 ∧ fr.leaving P w e }
theorem Bt.std_ok {C : Ctx} (hD : C.D = none) (hrd : C.rd = false) (cs : List Frame) (fid0 : Nat) (E0 : Env) (w0 : World) (Q : Out → HS → Prop) : BtOk C cs fid0 (Bt.std C.P fid0 cs (Rel0 E0 w0 Q)) E0 w0 Q :=
  ⟨fun _ => ⟨rfl, rfl, fun fr w e h1 h2 h3 => ⟨fr, w, rfl, h1, h2, h3⟩⟩, fun l hl => (by rw [hD] at hl; cases hl), fun l hl => (by rw [hD] at hl; cases hl), fun _ h => (by rw [hrd] at h; cases h)⟩
theorem nests_of (hC : CtxOk C) {R : Rn} (hR : ∀ cs fid0 B E0 w0 Q, BtOk C.off cs fid0 B E0 w0 Q → Sound C.off cs fid0 B E0 w0 Q R) : Nests C R := by
  intro g fn c args h K hFN hb hrun E w vals hr hd cs
  have hf := hC.FN g fn hFN
  have hs := hR cs g (Bt.std C.P g cs (Rel0 E w K)) E w K (Bt.std_ok (C := C.off) rfl rfl cs g E w K) g _ _ [] h hrun (fun _ => rfl) E w (vals ++ Array.replicate (fn.ntmps - vals.size) undef) [] w.heap.size [] (fill_den hd _) hr (by simp only [StkOk]; exact Nat.le_refl _) (Nat.le_refl _) (no_marks rfl _ _) (by simp only [kb]) (by simp only [InvK]) (Ext.refl E w) rfl ⟨fn, hf⟩
  obtain ⟨e, m', ⟨fr, w', rfl, ⟨o, h', E', q1, q2, q3, q4⟩, hfn, hl⟩, hc⟩ := hs
  rw [enter_fra (B := Bt.std C.P g cs (Rel0 E w K)) rfl hf hb]
  refine ⟨e, w', fr, ⟨o, h', E', q1, q2, q3, ?_⟩, hc, hfn, hl⟩
  cases o <;> cases e <;> exact q4
theorem stepR_scope {P : Program} {b : Frame} {a : Act} {k : List Item} {cs : List Frame} {w : World} {c : Code} : step P (lone (b.atR a (.code (.scope c) :: k)) cs w) = .next (lone (b.atR a (.code c :: .inScope c :: k)) cs w) :=
  step_lone_go (by simp [stepG, stepG.exec, Frame.atR])
theorem stepR_inScope {P : Program} {b : Frame} {a : Act} {k : List Item} {cs : List Frame} {w : World} {c : Code} : step P (lone (b.atR a (.inScope c :: k)) cs w) = .next (lone (b.atR a k) cs w) :=
  step_lone_go (by simp [stepG, stepG.exec, Frame.atR])
theorem CtxOk.off (hC : CtxOk C) : CtxOk C.off := ⟨hC.T, hC.F, hC.FN, hC.G, hC.mix⟩

theorem keepN_put {l : List Nat} {d : Nat} (hd : d ∉ l) (t : List SV) (v : SV) : keepN (upd t d v) l = keepN t l := by
  induction l with
  | nil => rfl
  | cons k l ih =>
    simp only [List.mem_cons, not_or] at hd
    simp only [keepN, nth_upd_ne t d k v (fun e => hd.1 e.symm), ih hd.2]
theorem keep_panQ {C : Ctx} {ops : Array Oper} {Q : Out → HS → Prop} (hk : ∀ l, C.D = some l → keepW ops l = true) {i : Nat} {o : Oper} (ho : ops[i]? = some o) (t : List SV) (v u : SV) (h : HS) (hx : panQ C.D Q (put t o.dst v) u h) : panQ C.D Q t u h := by
  unfold panQ at hx ⊢
  split at hx
  · exact hx
  · rename_i l hD
    have hk := hk l hD
    simp only [keepW, Array.all_eq_true_iff_forall_mem] at hk
    have := hk o (Array.mem_of_getElem? ho)
    cases hdst : o.dst with
    | none => simpa only [put, hdst] using hx
    | some d =>
      simp only [hdst, Bool.not_eq_true', List.contains_eq_mem, decide_eq_false_iff_not] at this
      rw [hdst] at hx
      simp only [put, keepN_put this] at hx
      exact hx

theorem rng_ok {cs : List Frame} {fid0 : Nat} {B : Bt} {E0 : Env} {w0 : World} {Q : Out → HS → Prop} (hC : CtxOk C) (hB : BtOk C cs fid0 B E0 w0 Q) {R R0 : Rn} (hN : Nests C R0) (hR : Sound C cs fid0 B E0 w0 Q R) {fid : Nat} {f : Operand} {params : Array Nat} {assign body : Code} {k : List It} {t : List SV} {fs : List Fr} {h : HS}
    {E : Env} {w : World} {tmps : Array Value} {frs : List Frame} {s : Nat} {ds : List Deferred}
    (hp : rngS C R R0 (ev t f) params assign body fid k t fs h Q) (hd : DenA E w t tmps) (hr : RelH E h w) (hs : StkOk C cs B E w w0.heap.size s fs frs) (hsw : s ≤ w.heap.size) (hds : DsOk E w B s w.heap.size ds) (hkb : kb E.nb k)
    (hi : InvK C cs B E w s w.heap.size fid frs k) (hx : Ext E0 w0 E w) (hb : bot fid fs = fid0) (hfn : ∃ fn, C.P.funcs[fid]? = some fn) (hfs : C.D ≠ none → fs = []) :
    Goal C B (lone (fra B ds (rnf E.rho (.code (.rangeFunc f params assign body) :: k)) fid tmps (.code (.rangeFunc f params assign body) :: items E.rho k)) (frs ++ cs) w) := by
  unfold rngS at hp
  split at hp
  · rename_i g caps hfv
    obtain ⟨hF, hrn, hp⟩ := hp
    have kf := ev_den (a := ⟨tmps, ds⟩) hd f
    rw [hfv] at kf
    generalize hv : (⟨tmps, ds⟩ : Act).eval f = vf at kf
    cases kf
    rename_i vs hvs hvd
    have hro : rnf E.rho (.code (.rangeFunc f params assign body) :: k) = none := by simp [rnf, rnd, hrn]
    rw [hro]
    -- the two blocks
    have hxA : Ext E w E (w.alloc (.deferred (some []))) := ext_of_grow hr.own rfl rfl rfl (by simp) (fun b hb => Below.heap_alloc w _ b hb)
    have hrA : RelH E h (w.alloc (.deferred (some []))) := hr.quiet hxA (fun b hb => Below.heap_alloc w _ b hb)
    have hszA : (w.alloc (.deferred (some []))).heap.size = w.heap.size + 1 := by simp
    have hnb : lenB h.blks = E.nb := hr.nb.symm
    have hrL := hrA.newLoop fid t tmps (hd.ext hxA) params assign body w.heap.size .ready none
    have hxL : Ext E (w.alloc (.deferred (some []))) (E.newB (w.alloc (.deferred (some []))).heap.size) ((w.alloc (.deferred (some []))).alloc (.loop { state := .ready, pending := none, fn := fid, tmps, params, assign, body, defers := w.heap.size })) := ext_alloc hrA.own _ _ rfl
    have hx2 := hxA.trans hxL
    rw [hszA] at hrL hxL hx2
    generalize hw2 : ((w.alloc (.deferred (some []))).alloc (.loop { state := .ready, pending := none, fn := fid, tmps, params, assign, body, defers := w.heap.size })) = w2 at hrL hxL hx2
    have hsz2 : w2.heap.size = w.heap.size + 2 := by rw [← hw2]; simp
    have hrho : (E.newB (w.heap.size + 1)).rho (lenB h.blks) = w.heap.size + 1 := by simp [Env.newB, hnb]
    have hnb2 : lenB h.blks < (E.newB (w.heap.size + 1)).nb := by simp [Env.newB, hnb]
    have hds2 : DsOk (E.newB (w.heap.size + 1)) w2 B s w2.heap.size (mk1 w.heap.size :: ds) := by
      obtain ⟨l, e1, e2, e3⟩ := hds.ext hx2 hx2.size
      obtain ⟨l0, e10, e20, e30⟩ := hds
      have hll : marks l = marks l0 := List.append_cancel_right (e1.symm.trans e10)
      refine ⟨w.heap.size :: l0, by simp [marks, e10], ?_, ?_⟩
      · rw [List.nodup_cons]
        exact ⟨fun hm => by have := (e30 _ hm).2.1; omega, e20⟩
      · intro D hD
        rcases List.mem_cons.1 hD with rfl | hD
        · refine ⟨hsw, by omega, by omega, ?_, ?_⟩
          · simp only [Env.newB]
            rw [if_neg (by omega)]
            cases ho : E.own w.heap.size with
            | none => rfl
            | some t => have := hr.own _ _ ho; omega
          · rw [← hw2, Below.heap_alloc _ _ _ (by simp)]
            exact heap_alloc_new w _
        · obtain ⟨a, b, c, d, e⟩ := e30 D hD
          obtain ⟨k1, k2⟩ := hx2.keep D c d
          exact ⟨a, by omega, by omega, k1, k2.trans e⟩
    have henter := run_enterLoop_outer (P := C.P) (w := w) fid tmps params assign body
    rw [hw2] at henter
    have hstep := stepR_rangeFunc (P := C.P) (b := base B none fid) (a := ⟨tmps, ds⟩) (k := items E.rho k) (cs := frs ++ cs) (w := w) (g := f) (ps := params) (assign := assign) (body := body) henter
      (d := { target := .fn (.func g) vs, args := #[.func (.yield (w.heap.size + 1)) #[] #[]] }) (w₁' := w2) (by
        simp [resolve, hv, Deferred.ofValue, show ∀ x, (⟨tmps, ds⟩ : Act).eval (.const x) = x from fun _ => rfl]) (f := g) (args := #[.func (.yield (w.heap.size + 1)) #[] #[]] ++ vs) (w₂ := w2) (by
        simpa [invoke] using hC.F g hF (#[.func (.yield (w.heap.size + 1)) #[] #[]] ++ vs) w2)
    refine Goal.step hstep ?_
    have hargs : DenA (E.newB (w.heap.size + 1)) w2 (.yield (lenB h.blks) :: caps) (#[.func (.yield (w.heap.size + 1)) #[] #[]] ++ vs) := by
      have h1 : DenA (E.newB (w.heap.size + 1)) w2 [.yield (lenB h.blks)] #[.func (.yield (w.heap.size + 1)) #[] #[]] := by
        refine ⟨rfl, fun i x u hx hu => ?_⟩
        cases i with
        | zero =>
          simp at hx hu; subst hx hu
          have hy := Den.yield (w := w2) hnb2
          rw [hrho] at hy
          exact hy
        | succ i => simp at hx
      exact h1.cat (DenA.ext hx2 ⟨hvs, hvd⟩)
    have hkb2 : kb (E.newB (w.heap.size + 1)).nb k := kb_le hx2.nb hkb
    have hit : items (E.newB (w.heap.size + 1)).rho k = items E.rho k := items_eq (fun nm hn => hx2.rho nm hn) hkb
    have hrn2 : rnf (E.newB (w.heap.size + 1)).rho (.inRng (lenB h.blks) :: k) = none := by simp [rnf, rnd, hrn]
    have hframe : (base B none fid).atR { (⟨tmps, ds⟩ : Act) with defers := [{ target := .collected w.heap.size, args := #[] }] ++ (⟨tmps, ds⟩ : Act).defers } (.inRangeFunc (w.heap.size + 1) :: items E.rho k) =
        fra B (mk1 w.heap.size :: ds) (rnf (E.newB (w.heap.size + 1)).rho (.inRng (lenB h.blks) :: k)) fid tmps (items (E.newB (w.heap.size + 1)).rho (.inRng (lenB h.blks) :: k)) := by
      rw [hrn2]
      simp only [items, hrho, hit]
      rfl
    rw [hframe]
    unfold rngGo at hp
    split at hp
    · rename_i fn hFN
      split at hp
      · rename_i c hbody
        have hP := hC.FN g fn hFN
        split at hp
        · rename_i hD
          rw [enter_fra (hB.std hD).2.1 hP hbody]
          have := hR _ _ _ _ _ hp (fun h => absurd hD h) (E.newB (w.heap.size + 1)) w2 _ (fra B (mk1 w.heap.size :: ds) (rnf (E.newB (w.heap.size + 1)).rho (.inRng (lenB h.blks) :: k)) fid tmps (items (E.newB (w.heap.size + 1)).rho (.inRng (lenB h.blks) :: k)) :: frs) w2.heap.size [] (fill_den hargs _) hrL (by
            simp only [StkOk]
            exact ⟨s, mk1 w.heap.size :: ds, tmps, by omega, Nat.le_refl _, rfl, hd.ext hx2, by simp only [kb]; exact ⟨hnb2, hkb2⟩, hds2, hfn, by simp only [InvK]; exact hi.ext hx2 hx2.size, hs.ext hx2⟩) (Nat.le_refl _) (no_marks (hB.std hD).1 _ _) (by simp only [kb]) (by simp only [InvK]) (hx.trans hx2) hb ⟨fn, hP⟩
          exact this
        · rename_i l hD
          have hcs := hN g fn c _ _ _ hFN hbody hp
          refine by_contract hB hcs hrL hargs (fun v h' E' w' val hK hr' hx' hden => ?_) (fun v h' E' w' val hK hr' hx' hden => ?_)
          · simp only [items]
            rw [fra_at, finish_atR_inRangeFunc, ← fra_at]
            simp only [outK, put] at hK
            have := hR _ _ _ _ _ hK hfs E' w' tmps frs s (mk1 w.heap.size :: ds) ((hd.ext hx2).ext hx') hr' ((hs.ext hx2).ext hx') (by have := hx'.size; omega) (hds2.ext hx' hx'.size) (by simp only [kb]; exact ⟨Nat.lt_of_lt_of_le hnb2 hx'.nb, kb_le hx'.nb hkb2⟩) (by simp only [InvK]; exact (hi.ext hx2 hx2.size).ext hx' hx'.size) ((hx.trans hx2).trans hx') hb hfn
            simp only [items] at this
            rw [items_eq (fun nm hn => hx'.rho nm hn) hkb2, hx'.rho _ hnb2, show rnf E'.rho (.endRng (lenB h.blks) :: k) = none from by simp [rnf, rnd, hrn]] at this
            rw [hrn2]
            exact this
          · exact panQ_goal hB hK ((hd.ext hx2).ext hx') hr' ((hx.trans hx2).trans hx') hden ((hs.ext hx2).ext hx') (hds2.ext hx' hx'.size) hb hfn hfs
      · exact hp.elim
    · exact hp.elim
  · exact hp.elim

theorem run_sound : ∀ (n : Nat) (C : Ctx) (hC : CtxOk C) (cs : List Frame) (fid0 : Nat) (B : Bt) (E0 : Env) (w0 : World) (Q : Out → HS → Prop) (hB : BtOk C cs fid0 B E0 w0 Q), Sound C cs fid0 B E0 w0 Q (run C n)
  | 0, C, hC, cs, fid0, B, E0, w0, Q, hB => fun fid k t fs h hp => by simp only [run] at hp
  | n + 1, C, hC, cs, fid0, B, E0, w0, Q, hB => by
    have ih : Sound C cs fid0 B E0 w0 Q (run C n) := run_sound n C hC cs fid0 B E0 w0 Q hB
    have hN : Nests C (run C.off n) := nests_of hC (fun cs fid0 B E0 w0 Q h => run_sound n C.off hC.off cs fid0 B E0 w0 Q h)
    intro fid k t fs h hp hfs E w tmps frs s ds hd hr hs hsw hds hkb hi hx hb hfn
    have hle := stk_le hs
    have leave : ∀ (todo : List Item) (ro : Option Nat) (fr : Frame), leaveS C (run C n) C.D fid t fs h Q (C.FN fid) → fr = { fra B ds ro fid tmps todo with mode := .returning } → Goal C B (lone fr (frs ++ cs) w) := by
      rintro todo ro fr hl rfl
      obtain ⟨ml, e1, e2⟩ := hds
      obtain ⟨w1, g1, g2⟩ := take_steps (P := C.P) (cs := frs ++ cs) (D0 := B.ds) ml { fra B ds ro fid tmps todo with mode := .returning } w (by intro e; cases e) e1 e2
      refine Goal.of_steps g1 ?_
      unfold leaveS at hl
      split at hl
      · rename_i hD
        split at hl
        · rename_i fn hFN
          split at hl
          · rename_i p vs hres
            obtain ⟨v, h1, h2⟩ := results_ok (P := C.P) hC.T (g2.denA hd) (g2.rel hr) fn hres hl.1
            exact popS_ok hB hD ih hl.2 h2 (g2.rel hr) (g2.stk hs) (g2.ext hx hle) hb ⟨rfl, (hB.std hD).1, (hB.std hD).2.1, fn, hC.FN fid fn hFN, h1⟩ rfl
          · exact hl.elim
        · exact hl.elim
      · rename_i l hD
        have h0 := hfs (by rw [hD]; simp)
        subst h0
        cases frs with
        | nil => cases hb; exact hB.fin l hD none t h E w1 tmps todo ro _ hl (g2.denA hd) (g2.rel hr) (g2.ext hx hle) rfl
        | cons _ _ => simp only [StkOk] at hs
    have go : ∀ k' t' h' (todo : List Item), run C n fid k' t' fs h' Q → DenA E w t' tmps → RelH E h' w → kb E.nb k' → rnd k' = rnd k → InvK C cs B E w s w.heap.size fid frs k' → Goal C B (lone (fra B ds (rnf E.rho k) fid tmps (items E.rho k')) (frs ++ cs) w) := by
      intro k' t' h' todo hp' hd' hr' hkb' hrn hi'
      have := ih _ _ _ _ _ hp' hfs E w tmps frs s ds hd' hr' hs hsw hds hkb' hi' hx hb hfn
      rw [show rnf E.rho k' = rnf E.rho k from by unfold rnf; rw [hrn]] at this
      exact this
    cases k with
    | nil =>
      simp only [run] at hp
      exact Goal.step (stepR_end (b := base B (rnf E.rho []) fid) (a := ⟨tmps, ds⟩) (cs := frs ++ cs) rfl) (leave [] _ _ hp rfl)
    | cons x k =>
      cases x with
      | blk id =>
        simp only [run] at hp
        simp only [kb] at hkb
        simp only [InvK] at hi
        exact Goal.step (stepR_inBlock (b := base B (rnf E.rho (.blk id :: k)) fid) (a := ⟨tmps, ds⟩) (cs := frs ++ cs)) (go k t h [] hp hd hr hkb rfl hi)
      | inv ι st μ i body =>
        simp only [run] at hp
        simp only [InvK] at hi
        obtain ⟨j, hμ, hsub⟩ := hp
        obtain ⟨⟨Ee, we, hwe, hxe, hkbe, hlen, hgo⟩, hi'⟩ := hi
        obtain ⟨l1, l2⟩ := hlen j
        obtain ⟨g1, g2⟩ := hsub.len
        obtain ⟨E', hrho, hxE, d1, r1⟩ := hsub.go hd hr _ _ rfl rfl (by rw [hr.nb]; exact g1) (by rw [hr.nv]; exact g2)
        have hxe' := hxe.trans hxE
        refine Goal.step (stepR_inLoop (b := base B (rnf E.rho (.inv ι st μ i body :: k)) fid) (a := ⟨tmps, ds⟩) (cs := frs ++ cs)) ?_
        have hg := hgo j hμ { E' with nb := lenB (st j).2.blks, nv := lenV (st j).2.vecs } w tmps ds ⟨hxe'.os, hxe'.tape, hxe'.output, hxe'.size, l1, l2, hxe'.rho, hxe'.val, hxe'.keep, hxe'.oth⟩ d1 r1 (hds.ext hxE (Nat.le_refl _))
        simp only [hrho] at hg
        exact hg
      | aga body =>
        simp only [run] at hp
        simp only [kb] at hkb
        simp only [InvK] at hi
        exact Goal.step (stepR_inLoop (b := base B (rnf E.rho (.aga body :: k)) fid) (a := ⟨tmps, ds⟩) (cs := frs ++ cs)) (go (.code body :: .aga body :: k) t h [] hp hd hr (by simp only [kb]; exact hkb) rfl (by simp only [InvK]; exact hi))
      | scp body =>
        simp only [run] at hp
        simp only [kb] at hkb
        simp only [InvK] at hi
        exact Goal.step (stepR_inScope (b := base B (rnf E.rho (.scp body :: k)) fid) (a := ⟨tmps, ds⟩) (cs := frs ++ cs)) (go k t h [] hp hd hr hkb rfl hi)
      | reg ops idx =>
        cases idx with
        | nil =>
          simp only [run] at hp
          simp only [kb] at hkb
          simp only [InvK] at hi
          exact Goal.step (stepR_region_end (b := base B (rnf E.rho (.reg ops [] :: k)) fid) (a := ⟨tmps, ds⟩) (cs := frs ++ cs)) (go k t h [] hp hd hr hkb rfl hi)
        | cons i idx =>
          simp only [run] at hp
          simp only [kb] at hkb
          simp only [InvK] at hi
          exact opS_ok hC hB hN ih hp hd hr hs hsw hds hkb hi hx hb hfn hfs
      | inRng nm => simp only [run] at hp
      | endRng nm =>
        simp only [run] at hp
        simp only [kb] at hkb
        simp only [InvK] at hi
        have main : ∀ st pend rf rt params assign body, getB h.blks nm = .loop st pend rf rt params assign body → st ≠ .busy → run C n fid (match pend with | none => k | some c => .code c :: k) t fs { h with blks := setB h.blks nm .dead } Q →
            Goal C B (lone (fra B ds (rnf E.rho (.endRng nm :: k)) fid tmps (items E.rho (.endRng nm :: k))) (frs ++ cs) w) := by
          intro st pend rf rt params assign body hblk hst hp'
          obtain ⟨r, h1, h2, h3, h4⟩ := loop_moves hr hblk
          subst h2 h3
          obtain ⟨hr', hx'⟩ := h4 .exhausted r.pending
          have hrun := run_endLoop (P := C.P) h1 hst
          refine Goal.step (stepR_endRangeFunc (b := base B (rnf E.rho (.endRng nm :: k)) fid) (a := ⟨tmps, ds⟩) (k := items E.rho k) (cs := frs ++ cs) hrun) ?_
          have hr2 := hr'.drop nm
          simp only [setB_setB] at hr2
          have hg : run C n fid (match r.pending with | none => k | some c => .code c :: k) t fs { h with blks := setB h.blks nm .dead } Q → Goal C B (lone (fra B ds (rnf E.rho k) fid tmps (items E.rho (match r.pending with | none => k | some c => .code c :: k))) (frs ++ cs) (w.putObj (E.rho nm) (.loop { r with state := .exhausted, pending := r.pending }))) := fun hp' => by
            have := ih _ _ _ _ _ hp' hfs E _ tmps frs s ds (hd.ext hx') hr2 (hs.ext hx') (Nat.le_trans hsw hx'.size) (hds.ext hx' hx'.size) (by split <;> first | exact hkb.2 | (simp only [kb]; exact hkb.2)) (by split <;> first | exact hi.ext hx' hx'.size | (simp only [InvK]; exact hi.ext hx' hx'.size)) (hx.trans hx') hb hfn
            rw [show rnf E.rho (match r.pending with | none => k | some c => .code c :: k) = rnf E.rho k from by split <;> rfl] at this
            exact this
          have e : (r.pending.map Item.code).toList ++ items E.rho k = items E.rho (match r.pending with | none => k | some c => .code c :: k) := by
            cases r.pending <;> simp [items]
          have := hg hp'
          rw [← e] at this
          exact this
        unfold endRngS at hp
        split at hp
        · rename_i hblk; exact main _ _ _ _ _ _ _ hblk (by intro e; cases e) hp
        · rename_i hblk; exact main _ _ _ _ _ _ _ hblk (by intro e; cases e) hp
        · rename_i hblk; exact main _ _ _ _ _ _ _ hblk (by intro e; cases e) hp
        · exact hp.elim
      | beginR =>
        simp only [run] at hp
        simp only [kb] at hkb
        simp only [InvK] at hi
        unfold beginRS at hp
        split at hp
        · rename_i nm hrn
          split at hp
          · rename_i pend rf rt params assign body hblk
            obtain ⟨r, h1, h2, h3, h4⟩ := loop_moves hr hblk
            subst h3
            obtain ⟨hr', hx'⟩ := h4 .busy r.pending
            have hro : (base B (rnf E.rho (.beginR :: k)) fid).roundOf = some (E.rho nm) := by simp [base, rnf, rnd, hrn]
            refine Goal.step (stepR_beginRound (b := base B (rnf E.rho (.beginR :: k)) fid) (a := ⟨tmps, ds⟩) (k := items E.rho k) (cs := frs ++ cs) hro (run_beginRound h1 h2)) ?_
            have := ih _ _ _ _ _ hp hfs E _ tmps frs s ds (hd.ext hx') hr' (hs.ext hx') (Nat.le_trans hsw hx'.size) (hds.ext hx' hx'.size) hkb (hi.ext hx' hx'.size) (hx.trans hx') hb hfn
            exact this
          · exact hp.elim
        · exact hp.elim
      | endR nm =>
        simp only [run] at hp
        simp only [kb] at hkb
        obtain ⟨hnm, rfl⟩ := hkb
        cases hD : C.D with
        | some l =>
          have h0 := hfs (by rw [hD]; simp)
          subst h0
          unfold endRS at hp
          split at hp
          · simp only [popR, hD] at hp
          · exact hp.elim
        | none =>
          refine endRS_ok hB hD ih hp hr hs hx hb (fid := fid) ?_
          intro v w' c frs' hrun hfrs; rw [hfrs]
          have hds0 : (base B (rnf E.rho [.endR nm]) fid).roundOf = some (E.rho nm) := by simp [base, rnf, rnd]
          exact stepR_round_end (P := C.P) (b := base B (rnf E.rho [.endR nm]) fid) (a := ⟨tmps, ds⟩) (cs := frs') (c := c) hds0 (hB.std hD).2.1 hrun
      | code c =>
        simp only [InvK] at hi
        have hkb0 := hkb
        simp only [kb] at hkb
        cases c with
        | skip =>
          simp only [run] at hp
          exact Goal.step (stepR_skip (b := base B (rnf E.rho (.code .skip :: k)) fid) (a := ⟨tmps, ds⟩) (cs := frs ++ cs)) (go k t h [] hp hd hr hkb rfl hi)
        | label l =>
          simp only [run] at hp
          exact Goal.step (stepR_label (b := base B (rnf E.rho (.code (.label l) :: k)) fid) (a := ⟨tmps, ds⟩) (cs := frs ++ cs)) (go k t h [] hp hd hr hkb rfl hi)
        | seq a b =>
          simp only [run] at hp
          exact Goal.step (stepR_seq (b := base B (rnf E.rho (.code (.seq a b) :: k)) fid) (a := ⟨tmps, ds⟩) (cs := frs ++ cs)) (go (.code a :: .code b :: k) t h [] hp hd hr (by simp only [kb]; exact hkb) rfl (by simp only [InvK]; exact hi))
        | block id c =>
          simp only [run] at hp
          exact Goal.step (stepR_block (b := base B (rnf E.rho (.code (.block id c) :: k)) fid) (a := ⟨tmps, ds⟩) (cs := frs ++ cs)) (go (.code c :: .blk id :: k) t h [] hp hd hr (by simp only [kb]; exact hkb) rfl (by simp only [InvK]; exact hi))
        | cond c a b =>
          simp only [run, condS] at hp
          have hc := ev_den (a := ⟨tmps, ds⟩) hd c
          split at hp
          · rename_i q hq
            rw [hq] at hc
            generalize hv : (⟨tmps, ds⟩ : Act).eval c = vc at hc
            cases hc
            refine Goal.step (stepR_cond (b := base B (rnf E.rho (.code (.cond c a b) :: k)) fid) (a := ⟨tmps, ds⟩) (cs := frs ++ cs) (t := q) hv) ?_
            cases q with
            | true => exact go (.code a :: k) t h [] (hp.1 rfl) hd hr (by simp only [kb]; exact hkb) rfl (by simp only [InvK]; exact hi)
            | false => exact go (.code b :: k) t h [] (hp.2 rfl) hd hr (by simp only [kb]; exact hkb) rfl (by simp only [InvK]; exact hi)
          · exact hp.elim
        | exit id =>
          simp only [run, exitS] at hp
          split at hp
          · rename_i k' hk
            obtain ⟨a1, a2, a3⟩ := exit_keeps id k k' hkb hk hi
            exact Goal.step (stepR_exit (b := base B (rnf E.rho (.code (.exit id) :: k)) fid) (a := ⟨tmps, ds⟩) (cs := frs ++ cs) (items_exit id k k' hkb hk)) (go k' t h [] hp hd hr a2 (by simp only [rnd]; exact a3) a1)
          · rename_i hk
            unfold retS at hp
            split at hp
            · exact hp.elim
            · rename_i nm hrn
              cases hD : C.D with
              | some l =>
                have h0 := hfs (by rw [hD]; simp)
                subst h0
                unfold endRS at hp
                split at hp
                · simp only [popR, hD] at hp
                · exact hp.elim
              | none =>
                refine endRS_ok hB hD ih hp hr hs hx hb (fid := fid) ?_
                intro v w' c frs' hrun hfrs; rw [hfrs]
                have hds0 : (base B (rnf E.rho (.code (.exit id) :: k)) fid).roundOf = some (E.rho nm) := by simp [base, rnf, rnd, hrn]
                exact stepR_round_exit (P := C.P) (b := base B (rnf E.rho (.code (.exit id) :: k)) fid) (a := ⟨tmps, ds⟩) (k := items E.rho k) (cs := frs') (c := c) hds0 (hB.std hD).2.1 (items_noexit id k hkb hk) hrun
        | ret =>
          simp only [run] at hp
          unfold retS at hp
          split at hp
          · rename_i hrn
            exact Goal.step (stepR_ret (b := base B (rnf E.rho (.code .ret :: k)) fid) (a := ⟨tmps, ds⟩) (cs := frs ++ cs) (by simp [base, rnf, rnd, hrn])) (leave _ _ _ hp rfl)
          · rename_i nm hrn
            cases hD : C.D with
            | some l =>
              have h0 := hfs (by rw [hD]; simp)
              subst h0
              unfold endRS at hp
              split at hp
              · simp only [popR, hD] at hp
              · exact hp.elim
            | none =>
              refine endRS_ok hB hD ih hp hr hs hx hb (fid := fid) ?_
              intro v w' c frs' hrun hfrs; rw [hfrs]
              have hds0 : (base B (rnf E.rho (.code .ret :: k)) fid).roundOf = some (E.rho nm) := by simp [base, rnf, rnd, hrn]
              exact stepR_round_ret (P := C.P) (b := base B (rnf E.rho (.code .ret :: k)) fid) (a := ⟨tmps, ds⟩) (k := items E.rho k) (cs := frs') (c := c) hds0 (hB.std hD).2.1 hrun
        | rangeFunc f params assign body =>
          simp only [run] at hp
          exact rng_ok hC hB hN ih hp hd hr hs hsw hds hkb hi hx hb hfn hfs
        | region id ops draw =>
          cases draw with
          | true =>
            simp only [run, drawS] at hp
            split at hp
            · rename_i p hpl
              obtain ⟨⟨hok, hkeep⟩, hp⟩ := hp
              simp only [planOk, Bool.and_eq_true] at hok
              have hX : (∀ (i : Nat) (o : Oper), ops[i]? = some o → ∀ t v u h, panQ C.D Q (put t o.dst v) u h → panQ C.D Q t u h) ∨ callFree ops = true := by
                cases hcf : callFree ops with
                | true => exact .inr rfl
                | false =>
                  refine .inl fun i o ho => keep_panQ (fun l hD => ?_) ho
                  simpa only [keepOk, hD, hcf, Bool.or_false] using hkeep
              have hany := (plan_any hX hC (ssaOk_spec hok.1.1) hN p true _ _ _ t h hok.2 ⟨by simp, fun j o ho hl => by
                rw [Array.getD_eq_getD_getElem?, Array.getElem?_replicate] at hl
                split at hl <;> simp at hl⟩ (fun k hk => by cases hk) (fun k hk => by cases hk) hp).1 rfl
              refine Goal.step (stepR_region_draw (b := base B (rnf E.rho (.code (.region id ops true) :: k)) fid) (a := ⟨tmps, ds⟩) (cs := frs ++ cs)) ?_
              have hord := any_ord ops.size (w.tape w.drawn (.order fid id)) _ _ t h hany
              have hx1 : Ext E w E { w with drawn := w.drawn + 1 } := ⟨rfl, rfl, rfl, Nat.le_refl _, Nat.le_refl _, Nat.le_refl _, fun _ _ => rfl, fun _ _ _ _ h => h, fun _ _ h => ⟨h, rfl⟩, fun _ h => ⟨h, rfl⟩⟩
              have hgo := ord_goal hC (hB := ⟨hB.std, hB.fin, hB.stop, hB.rnd⟩) hN ih (Region.linearise.go .any ops ops.size (w.tape w.drawn (.order fid id)) (Array.replicate ops.size false) []) (fid := fid) (ops := ops) (k := k) (fs := fs) fid _ t fs h ⟨⟨rfl, rfl, rfl⟩, hord⟩ hfs
                E { w with drawn := w.drawn + 1 } tmps frs s ds (hd.ext hx1) (hr.quiet hx1 (fun _ _ => rfl)) (by rw [StkOk_bare]; exact hs.ext hx1) hsw (hds.ext hx1 (Nat.le_refl _)) (by simp only [kb]; exact hkb) (by simpa only [InvK, InvK_bare] using hi.ext hx1 (Nat.le_refl _)) (hx.trans hx1) hb hfn
              simp only [Region.schedule, hC.mix, Bool.true_or, if_true]
              exact hgo
            · exact hp.elim
          | false =>
            simp only [run] at hp
            refine Goal.step (stepR_region (b := base B (rnf E.rho (.code (.region id ops false) :: k)) fid) (a := ⟨tmps, ds⟩) (cs := frs ++ cs)) ?_
            rw [upto_range] at hp
            exact go (.reg ops (List.range ops.size) :: k) t h [] hp hd hr (by simp only [kb]; exact hkb) rfl (by simp only [InvK]; exact hi)
        | loop body =>
          simp only [run, LoopOb] at hp
          rcases hp with ⟨ι, st, μ, mk, hmk, hlen, ⟨i0, h0⟩, hall⟩ | hp
          rotate_left
          · exact Goal.step (stepR_loop (b := base B (rnf E.rho (.code (.loop body) :: k)) fid) (a := ⟨tmps, ds⟩) (cs := frs ++ cs)) (go (.code body :: .aga body :: k) t h [] hp hd hr (by simp only [kb]; exact hkb) rfl (by simp only [InvK]; exact hi))
          refine Goal.step (stepR_loop (b := base B (rnf E.rho (.code (.loop body) :: k)) fid) (a := ⟨tmps, ds⟩) (cs := frs ++ cs)) ?_
          obtain ⟨E1, hrho1, hx1, hr1⟩ := mkH_ok mk hmk hr
          have hlen' : ∀ j, E1.nb ≤ lenB (st j).2.blks ∧ E1.nv ≤ lenV (st j).2.vecs := fun j => ⟨by rw [hr1.nb, (mkH_len mk h).1]; exact (hlen j).1, by rw [hr1.nv, (mkH_len mk h).2]; exact (hlen j).2⟩
          -- every round, by its measure
          have key : ∀ m i, μ i = m → ∀ E' w' tmps' ds', Ext E1 w E' w' → DenA E' w' (st i).1 tmps' → RelH E' (st i).2 w' → DsOk E' w' B s w'.heap.size ds' → Goal C B (lone (fra B ds' (rnf E'.rho k) fid tmps' (.code body :: .inLoop body :: items E'.rho k)) (frs ++ cs) w') := by
            intro m
            induction m using Nat.strongRecOn with
            | _ m ihm =>
              intro i hm E' w' tmps' ds' hx' hd' hr' hds'
              have hx2 := hx1.trans hx'
              exact ih _ _ _ _ _ (hall i) hfs E' w' tmps' frs s ds' hd' hr' (hs.ext hx2) (Nat.le_trans hsw hx2.size) hds' (by simp only [kb]; exact kb_le hx2.nb hkb) (by
                simp only [InvK]
                exact ⟨⟨E1, w, hx2.size, hx', kb_le hx1.nb hkb, hlen', fun j hj E2 w2 t2 ds2 hx2 hd2 hr2 hds2 => ihm (μ j) (hm ▸ hj) j rfl E2 w2 t2 ds2 hx2 hd2 hr2 hds2⟩, hi.ext hx2 hx2.size⟩) (hx.trans hx2) hb hfn
          obtain ⟨l1, l2⟩ := hlen' i0
          obtain ⟨g1, g2⟩ := h0.len
          obtain ⟨E2, hrho2, hx2, d1, r1⟩ := h0.go (hd.ext hx1) hr1 _ _ rfl rfl (by rw [hr1.nb]; exact g1) (by rw [hr1.nv]; exact g2)
          have hg := key _ i0 rfl { E2 with nb := lenB (st i0).2.blks, nv := lenV (st i0).2.vecs } w tmps ds ⟨hx2.os, hx2.tape, hx2.output, hx2.size, l1, l2, hx2.rho, hx2.val, hx2.keep, hx2.oth⟩ d1 r1 (hds.ext (hx1.trans hx2) (Nat.le_refl _))
          simp only [hrho2, hrho1] at hg
          exact hg
        | scope body =>
          simp only [run] at hp
          exact Goal.step (stepR_scope (b := base B (rnf E.rho (.code (.scope body) :: k)) fid) (a := ⟨tmps, ds⟩) (cs := frs ++ cs)) (go (.code body :: .scp body :: k) t h [] hp hd hr (by simp only [kb]; exact hkb) rfl (by simp only [InvK]; exact hi))
        | _ => simp only [run] at hp
end
end Go.Eng
end

/- Tables checked by reckoning; contracts out of runs. -/
section
namespace Go.Eng
open Go.RowKit
set_option linter.unusedVariables false

def svSame : SV → SV → Bool
  | .int k n, .int k' n' => k == k' && n == n'
  | .bool a, .bool b => a == b
  | .str a, .str b => a.data == b.data
  | .nilp, .nilp => true
  | .nilf, .nilf => true
  | .nili, .nili => true
  | .any, .any => true
  | _, _ => false
theorem svSame_eq {a b : SV} (h : svSame a b = true) : a = b := by
  unfold svSame at h
  split at h <;> simp_all
  rename_i a b
  cases a; cases b; simp_all
def zcOk : ZC → Value → Bool
  | .c x, u => u.oneCell' && svSame x (svS u)
  | .sl _ sz, .slice none 0 0 => decide (0 < sz)
  | _, _ => false
def zcsOk : List ZC → List Value → Bool
  | [], [] => true
  | z :: zs, u :: us => zcOk z u && zcsOk zs us
  | _, _ => false
theorem zcsOk_get : ∀ {zs : List ZC} {us : List Value}, zcsOk zs us = true → zs.length = us.length ∧ ∀ (k : Nat) (u : Value), us[k]? = some u → u.oneCell' = true ∧ match zs[k]? with | some (.c x) => x = svS u | some (.sl _ sz) => u = .slice none 0 0 ∧ 0 < sz | none => False
  | [], [], _ => ⟨rfl, fun k u h => by simp at h⟩
  | z :: zs, u :: us, h => by
    simp only [zcsOk, Bool.and_eq_true] at h
    obtain ⟨h1, h2⟩ := zcsOk_get h.2
    refine ⟨by simp [h1], fun k v hv => ?_⟩
    cases k with
    | zero =>
      simp at hv
      subst hv
      have h0 := h.1
      unfold zcOk at h0
      split at h0
      · simp only [Bool.and_eq_true] at h0
        exact ⟨h0.1, svSame_eq h0.2⟩
      · exact ⟨rfl, rfl, by simpa using h0⟩
      · cases h0
    | succ k => simpa using h2 k v (by simpa using hv)
  | [], _ :: _, h => by simp [zcsOk] at h
  | _ :: _, [], h => by simp [zcsOk] at h

def sameK : Option (List LK) → List LK → Bool
  | some [], [] => true
  | some (.i :: l), .i :: k => sameK (some l) k
  | some (.b :: l), .b :: k => sameK (some l) k
  | _, _ => false
theorem sameK_eq : ∀ {l : Option (List LK)} {k : List LK}, sameK l k = true → l = some k
  | some [], [], _ => rfl
  | some (.i :: l), .i :: k, h => by have := sameK_eq (l := some l) (k := k) (by simpa [sameK] using h); simp at this; rw [this]
  | some (.b :: l), .b :: k, h => by have := sameK_eq (l := some l) (k := k) (by simpa [sameK] using h); simp at this; rw [this]
  | none, _, h => by simp [sameK] at h
  | some [], _ :: _, h => by simp [sameK] at h
  | some (_ :: _), [], h => by simp [sameK] at h
  | some (.i :: _), .b :: _, h => by simp [sameK] at h
  | some (.b :: _), .i :: _, h => by simp [sameK] at h

def chk (P : Program) (t : Nat) (ti : TI) : Bool :=
  match P.info? t, P.underlying t with
  | some i, some d => match i.zero with
    | some z => (match ti.eq with | none => true | some ks => sameK (flatK P 8 t) ks && !P.eqGuardType P.depth t) && aggV z == ti.agg && (match d with | .struct fs => fs.toList.map (fun f => aggD P f.type) == ti.fag.map some | _ => true) && (ti.agg || ti.size == 1) && i.size == ti.size && i.bytes == ti.bytes && z.cells.size == ti.size && zcsOk ti.zero z.cells.toList &&
        ti.ifc == (match d with | .interface _ => true | _ => false) && ti.agg == (match d with | .struct _ | .array _ _ => true | _ => false) &&
        (match ti.kind, d with
          | .slice e, .slice e' => e == e'
          | .array n e, .array n' e' => n == n' && e == e'
          | .struct offs, .struct fs => (fs.toList.mapM fun f => (P.info? f.type).map fun i => (f.offset, i.size)) == some offs && offs.all (fun x => x.2 != 0)
          | .int k, .int k' => k == k'
          | .bool, .bool => true
          | .func, .func _ _ _ => true
          | .map k v, .map k' v' => k == k' && v == v'
          | .other, _ => true
          | _, _ => false)
    | none => false
  | _, _ => false
theorem chk_ok {P : Program} {t : Nat} {ti : TI} (h : chk P t ti = true) : TIOk P t ti := by
  unfold chk at h
  split at h
  · rename_i i d hi hd
    split at h
    · rename_i z hz
      simp only [Bool.and_eq_true, Bool.or_eq_true, beq_iff_eq] at h
      obtain ⟨⟨⟨⟨⟨⟨⟨⟨⟨⟨h0, hz9⟩, hf9⟩, h1⟩, h2⟩, h3⟩, h4⟩, h5⟩, h6⟩, h7⟩, h8⟩ := h
      obtain ⟨z1, z2⟩ := zcsOk_get h5
      refine ⟨fun ha => by simpa [ha] using h1, ⟨i, z, hi, h2, h3, hz, h4, by rw [z1]; simp [h4], fun k u hu => z2 k u (by simpa using hu)⟩, ⟨d, hd, h6, h7, ?_⟩, fun i' z' hi' hz' => by rw [hi] at hi'; cases hi'; rw [hz] at hz'; cases hz'; exact hz9, fun fs hfs => by rw [hd] at hfs; cases hfs; simpa using hf9, fun ks hks => by rw [hks] at h0; simp only [Bool.and_eq_true, Bool.not_eq_true'] at h0; exact ⟨sameK_eq h0.1, h0.2⟩⟩
      generalize ti.kind = kk at h8 ⊢
      cases kk <;> cases d <;> simp at h8 <;> first
        | trivial
        | (simp [h8]; done)
        | (exact ⟨_, rfl, h8.1, fun x hx => by have := h8.2 x.1 x.2 hx; exact this⟩)
    · cases h
  · cases h

def lookT : List (Nat × TI) → Nat → Option TI
  | [], _ => none
  | (k, ti) :: l, t => if t = k then some ti else lookT l t
theorem lookT_ok {P : Program} : ∀ (l : List (Nat × TI)), (l.all fun x => chk P x.1 x.2) = true → TOk P (lookT l)
  | [], _, t, ti, h => by simp [lookT] at h
  | (k, x) :: l, ha, t, ti, h => by
    simp only [List.all_cons, Bool.and_eq_true] at ha
    simp only [lookT] at h
    split at h
    · rename_i e; subst e; cases h; exact chk_ok ha.1
    · exact lookT_ok l ha.2 t ti h

/-- A function with a body of its own. -/
def entB (P : Program) (g : Nat) : Bool := match P.funcs[g]? with
  | some fn => !(fn.name == "runtime.NumGoroutine") && fn.body.isSome
  | none => false
theorem entB_ok (P : Program) : FOk P (entB P) := by
  intro g h args w
  unfold entB at h
  split at h
  · rename_i fn hf
    simp only [Bool.and_eq_true, Bool.not_eq_true'] at h
    cases hb : fn.body with
    | none => rw [hb] at h; simp at h
    | some c => exact Go.Proofs.enters_of hf h.1 hb args w
  · cases h

/-- The plain context: every call inlined but those that hof names. -/
def ctx0 (P : Program) (l : List (Nat × TI)) (hof : Nat → Bool) (G : Nat → Option Spec) (plan : Nat → Nat → Option Plan) (D : Option (List Nat)) : Ctx :=
  { P, T := lookT l, F := entB P, FN := fun g => P.funcs[g]?, inl := fun g => !hof g, G, plan, D }
theorem ctx0_ok {P : Program} {l : List (Nat × TI)} (h : (l.all fun x => chk P x.1 x.2) = true) (hof : Nat → Bool) (G : Nat → Option Spec) (plan : Nat → Nat → Option Plan) (D : Option (List Nat))
    (hG : ∀ g f, G g = some f → ∀ args h p v h1, f args h = some (p, v, h1) → p → CallsS P g args h fun o h' => o = .ret v ∧ h' = h1) (hm : P.follows .mixedOrders = true) : CtxOk (ctx0 P l hof G plan D) :=
  ⟨lookT_ok l h, entB_ok P, fun _ _ h => h, hG, hm⟩

/-- The ghost of a callee that is handed no names: whatever the caller owns is foreign. -/
def Env.sub (E : Env) : Env := { nb := 0, rho := E.rho, nv := 0, val := E.val, own := fun b => match E.own b with | some _ => some .other | none => none }
theorem sub_rel {E : Env} {h : HS} {w : World} (hr : RelH E h w) : RelH E.sub ⟨[], []⟩ w :=
  ⟨rfl, rfl, fun nm ty c h => by simp [getB] at h, fun id a b c d e h => by simp [getV] at h, fun b t hb => by
    simp only [Env.sub] at hb
    cases ho : E.own b with
    | none => simp [ho] at hb
    | some t' => exact hr.own b t' ho, fun nm st pend fid t params assign body hb => by simp [getB] at hb, fun nm m hb => by simp [getB] at hb⟩

theorem frame_calls {P : Program} {g : Nat} {args : List SV} {K : Out → HS → Prop} (h : CallsS P g args ⟨[], []⟩ K) (hb : BdL 0 0 args) (K' : Out → Prop)
    (hK : ∀ o h', K o h' → K' o ∧ match o with | .ret v => Bd 0 0 v | .pan v => Bd 0 0 v | _ => True) : ∀ h0, CallsS P g args h0 fun o h' => K' o ∧ h' = h0 := by
  intro h0 E w vals hr hd
  have hd' : DenA E.sub w args vals := ⟨hd.1, fun i x u hx hu => (hd.2 i x u hx hu).turn (BdL_get hb i x hx) (fun nm hn => by simp [Env.sub] at hn) (fun id ver y hi => by simp [Env.sub] at hi)
    (fun b _ ho => by simp [Env.sub, ho])⟩
  refine (h E.sub w vals (sub_rel hr) hd').mono ?_
  rintro e w' ⟨o, h', E', hk, hr', hx, hout⟩
  obtain ⟨k1, k2⟩ := hK o h' hk
  have hkeep : ∀ b, b < w.heap.size → w'.heap[b]? = w.heap[b]? := fun b hb => by
    cases ho : E.own b with
    | none => exact (hx.keep b hb (by simp [Env.sub, ho])).2
    | some t => exact (hx.oth b (by simp [Env.sub, ho])).2
  have hx2 : Ext E w E w' := ext_of_grow hr.own hx.os hx.tape hx.output hx.size hkeep
  have back : ∀ {v : SV} {val : Value}, Den E' w' v val → Bd 0 0 v → Den E w' v val := fun hv hbv => by
    have hvb : Den { E with nb := 0, nv := 0 } w' _ _ := hv.turn (E' := { E with nb := 0, nv := 0 }) hbv (fun nm hn => by simp at hn) (fun id ver y hi => by simp at hi) (fun b hb ho => by
      cases hE : E.own b with
      | none => rfl
      | some t =>
        have := (hx.oth b (by simp [Env.sub, hE])).1
        rw [ho] at this; cases this)
    exact hvb.ext (show Ext { E with nb := 0, nv := 0 } w' E w' from ⟨rfl, rfl, rfl, Nat.le_refl _, Nat.zero_le _, Nat.zero_le _, fun nm hn => by simp at hn, fun id ver x hi => by simp at hi, fun b _ ho => ⟨ho, rfl⟩, fun b ho => ⟨ho, rfl⟩⟩)
  refine ⟨o, h0, E, ⟨k1, rfl⟩, hr.quiet hx2 hkeep, hx2, ?_⟩
  cases o with
  | ret v =>
    cases e with
    | returned val => exact back hout k2
    | panicked _ => exact hout.elim
    | outgrown => exact hout.elim
  | pan v =>
    cases e with
    | panicked chain => obtain ⟨val, h1, h2⟩ := hout; exact ⟨val, h1, back h2 k2⟩
    | returned _ => exact hout.elim
    | outgrown => exact hout.elim
  | fin p ts => cases e <;> exact hout.elim
  | stop k t => cases e <;> exact hout.elim
  | rnd v => cases e <;> exact hout.elim

/-- A round that runs by itself. -/
theorem rounds_of_run {C : Ctx} (hC : CtxOk C) (hD : C.D = none) (hrd : C.rd = true) {nm rf : Nat} {rt : List SV} {assign body : Code} {h : HS} {K : SV → HS → Prop} {Q : Out → HS → Prop} (hQ : ∀ o h', Q o h' → ∃ v, o = .rnd v ∧ K v h') (n : Nat) (hfn : (C.FN rf).isSome = true)
    (hrun : run C n rf [.code assign, .beginR, .code body, .endR nm] rt [] h Q) : RoundS C.P nm rf rt assign body h K := by
  intro E w tmps c cs hr hd hn
  let B : Bt := { ds := [], kd := .normal, Fin := fun e m => (∃ fr w', m = lone fr (c :: cs) w' ∧ Rel0 E w Q e w' ∧ fr.fn = rf ∧ fr.leaving C.P w' e) ∨ (∃ v val h' E' w', e = .returned val ∧ m = lone (c.finish val) cs w' ∧ K v h' ∧ RelH E' h' w' ∧ Ext E w E' w' ∧ Den E' w' v val) }
  have hB : BtOk C (c :: cs) rf B E w Q :=
    ⟨fun _ => ⟨rfl, rfl, fun fr w e h1 h2 h3 => .inl ⟨fr, w, rfl, h1, h2, h3⟩⟩, fun l hl => (by rw [hD] at hl; cases hl), fun l hl => (by rw [hD] at hl; cases hl),
      fun _ _ => ⟨c, cs, rfl, fun v h' E' w' val hq hr' hx' hd' => by
        obtain ⟨v', hv, hk⟩ := hQ _ _ hq
        cases hv
        exact ⟨.returned val, _, .inr ⟨v, val, h', E', w', rfl, rfl, hk, hr', hx', hd'⟩, Steps.refl _ _⟩⟩⟩
  have hround : Frame.round (E.rho nm) rf tmps assign body .normal = fra B [] (rnf E.rho [.code assign, .beginR, .code body, .endR nm]) rf tmps (items E.rho [.code assign, .beginR, .code body, .endR nm]) := by
    simp [Frame.round, fra, rnf, rnd, items, B]
  have hs := run_sound n C hC (c :: cs) rf B E w Q hB rf _ _ [] h hrun (fun _ => rfl) E w tmps [] w.heap.size [] hd hr (by simp only [StkOk]; exact Nat.le_refl _) (Nat.le_refl _) (no_marks rfl _ _) (by simp only [kb]; exact ⟨hn, trivial⟩) (by simp only [InvK]) (Ext.refl E w) rfl (by
    cases hf : C.FN rf with
    | none => rw [hf] at hfn; cases hfn
    | some fn => exact ⟨fn, hC.FN rf fn hf⟩)
  rw [hround]
  obtain ⟨e, m', hfin, hc⟩ := hs
  rcases hfin with ⟨fr, w', rfl, ⟨o, h', E', q1, q2, q3, q4⟩, hfn, hl⟩ | ⟨v, val, h', E', w', rfl, rfl, hk, hr', hx', hd'⟩
  · obtain ⟨v, rfl, hk⟩ := hQ _ _ q1
    cases e <;> exact q4.elim
  · exact ⟨v, val, h', E', w', hc, hk, hr', hx', hd'⟩
theorem calls_of_run {C : Ctx} (hC : CtxOk C) (hD : C.off = C) {g : Nat} {fn : Func} {c : Code} (hf : C.FN g = some fn) (hb : fn.body = some c) {args : List SV} {h : HS} {K : Out → HS → Prop} (n : Nat)
    (hrun : run C n g [.code c] (catS args (anys (fn.ntmps - lenS args))) [] h K) : CallsS C.P g args h K := by
  have e : C.off = C := hD
  exact nests_of hC (R := run C n) (fun cs fid0 B E0 w0 Q hB => by rw [e] at hB ⊢; exact run_sound n C hC cs fid0 B E0 w0 Q hB) g fn c args h K hf hb hrun
end Go.Eng
end

/- Functions that defer one call, and the deferred call that recovers. -/
section
namespace Go.Eng
open Go.RowKit
set_option linter.unusedVariables false

section
variable {P : Program} {b : Frame} {a : Act} {k : List Item} {cs : List Frame} {w w' : World} {ops : Array Oper} {i : Nat} {rest : List Nat} {o : Oper}
theorem op_defer (hro : b.roundOf = none) (ho : ops[i]? = some o) (hw : Region.wanted o (yielded ops a.tmps) = true) {d : Deferred} (hr : (execOp a.eval o).run P w = .ok (.defer d) w') :
    step P (lone (b.atR a (.inRegion ops (i :: rest) :: k)) cs w) = .next (lone (b.atR ({ a with defers := d :: a.defers }.put o.dst undef) (.inRegion ops rest :: k)) cs w') := by
  have hg := stepGR_op (P := P) (b := b) (k := k) (cs := cs) (w := w) (rest := rest) ho hw
  rw [hro, Oper.semAt_none] at hg
  have : ({ b.atR a (.inRegion ops (i :: rest) :: k) with defers := d :: a.defers } : Frame).finish undef =
      b.atR ({ a with defers := d :: a.defers }.put o.dst undef) (.inRegion ops rest :: k) := by
    have := Frame.finish_atR b { a with defers := d :: a.defers } ops i rest k undef
    rw [ho] at this; exact this
  refine step_lone_go ?_
  rw [hg]; simp only [stepG.apply, Sem.runT_eq, hr, GStep.bare_after]
  exact congrArg (fun fr => GStep.go { frame := fr, callers := cs, status := .running, dying := none } w') this
theorem op_recover (hro : b.roundOf = none) (hk : b.kind = .deferred) (ho : ops[i]? = some o) (hw : Region.wanted o (yielded ops a.tmps) = true) (hr : (execOp a.eval o).run P w = .ok .recover w') {v : Value} {cs' : List Frame} (hrec : recoverD cs = some (v, cs')) :
    step P (lone (b.atR a (.inRegion ops (i :: rest) :: k)) cs w) = .next (lone (b.atR (a.put o.dst v) (.inRegion ops rest :: k)) cs' w') := by
  have hg := stepGR_op (P := P) (b := b) (k := k) (cs := cs) (w := w) (rest := rest) ho hw
  rw [hro, Oper.semAt_none] at hg
  have hfin : (b.atR a (.inRegion ops (i :: rest) :: k)).finish v = b.atR (a.put o.dst v) (.inRegion ops rest :: k) := by rw [Frame.finish_atR, ho]; rfl
  have hk' : (b.atR a (.inRegion ops (i :: rest) :: k)).kind = .deferred := hk
  have htr := tryRecover_deferred hk' cs
  refine step_lone_go ?_
  rw [hg, ← hfin]
  simp only [Frame.atR, hro] at htr ⊢
  simp [stepG.apply, hr, htr, hrec]
theorem op_recover_none (hro : b.roundOf = none) (hk : b.kind = .deferred) (ho : ops[i]? = some o) (hw : Region.wanted o (yielded ops a.tmps) = true) (hr : (execOp a.eval o).run P w = .ok .recover w') (hrec : recoverD cs = none) :
    step P (lone (b.atR a (.inRegion ops (i :: rest) :: k)) cs w) = .next (lone (b.atR (a.put o.dst .nilIface) (.inRegion ops rest :: k)) cs w') := by
  have hg := stepGR_op (P := P) (b := b) (k := k) (cs := cs) (w := w) (rest := rest) ho hw
  rw [hro, Oper.semAt_none] at hg
  have hfin : ∀ v, (b.atR a (.inRegion ops (i :: rest) :: k)).finish v = b.atR (a.put o.dst v) (.inRegion ops rest :: k) := by intro v; rw [Frame.finish_atR, ho]; rfl
  have hk' : (b.atR a (.inRegion ops (i :: rest) :: k)).kind = .deferred := hk
  have htr := tryRecover_deferred hk' cs
  refine step_lone_go ?_
  rw [hg, ← hfin]
  simp only [Frame.atR, hro] at htr ⊢
  simp [stepG.apply, hr, htr, hrec]
end

/-- No loop lies about, and this is no round. -/
def noInv : List It → Prop
  | [] => True
  | .inv _ _ _ _ _ :: _ => False
  | .endR _ :: _ => False
  | .code _ :: k => noInv k
  | .blk _ :: k => noInv k
  | .reg _ _ :: k => noInv k
  | .inRng _ :: k => noInv k
  | .endRng _ :: k => noInv k
  | .beginR :: k => noInv k
  | .aga _ :: k => noInv k
  | .scp _ :: k => noInv k
theorem noInv_ok {C : Ctx} {cs : List Frame} {B : Bt} {E : Env} {w : World} {s u : Nat} {fid : Nat} {frs : List Frame} : ∀ {k : List It}, noInv k → InvK C cs B E w s u fid frs k ∧ rnd k = none
  | [], _ => by simp only [InvK, rnd]; exact ⟨trivial, trivial⟩
  | .inv _ _ _ _ _ :: _, h => by simp only [noInv] at h
  | .endR _ :: _, h => by simp only [noInv] at h
  | .code _ :: k, h => by simp only [noInv] at h; simp only [InvK, rnd]; exact noInv_ok h
  | .blk _ :: k, h => by simp only [noInv] at h; simp only [InvK, rnd]; exact noInv_ok h
  | .reg _ _ :: k, h => by simp only [noInv] at h; simp only [InvK, rnd]; exact noInv_ok h
  | .inRng _ :: k, h => by simp only [noInv] at h; simp only [InvK, rnd]; exact noInv_ok h
  | .endRng _ :: k, h => by simp only [noInv] at h; simp only [InvK, rnd]; exact noInv_ok h
  | .beginR :: k, h => by simp only [noInv] at h; simp only [InvK, rnd]; exact noInv_ok h
  | .aga _ :: k, h => by simp only [noInv] at h; simp only [InvK, rnd]; exact noInv_ok h
  | .scp _ :: k, h => by simp only [noInv] at h; simp only [InvK, rnd]; exact noInv_ok h

def slots : List ResultVar → List Nat
  | [] => []
  | .tmp i :: l => i :: slots l
  | .cell a _ :: l => a :: slots l
def resK (T : Nat → Option TI) (h : HS) : List ResultVar → List SV → Option (Prop × List SV)
  | [], _ => some (True, [])
  | .tmp _ :: l, x :: ts => match resK T h l ts with
    | some (p, vs) => some (p, x :: vs)
    | none => none
  | .cell _ ty :: l, x :: ts => match T ty with
    | some ti => match rLoad ti h x, resK T h l ts with
      | .val q v _, some (p, vs) => some (q ∧ p, v :: vs)
      | _, _ => none
    | none => none
  | _ :: _, [] => none
theorem resK_eq (T : Nat → Option TI) (h : HS) (t : List SV) : ∀ (l : List ResultVar), resK T h l (keepN t (slots l)) = resL T t h l
  | [] => rfl
  | .tmp i :: l => by simp only [slots, keepN, resK, resL, resK_eq T h t l]; rfl
  | .cell a ty :: l => by simp only [slots, keepN, resK, resL, resK_eq T h t l]; rfl

/-- A deferred call, the frame beneath it returning or in panic p; K: what the frame is in after it, and memory. -/
def DefS (P : Program) (g : Nat) (args : List SV) (p : Option SV) (h : HS) (K : Option SV → HS → Prop) : Prop :=
  ∀ (E : Env) (w : World) (vals : Array Value) (md : FrameMode), RelH E h w → DenA E w args vals → ModeOk E w p md →
    CallsD P g vals md w fun e u' w' => ∃ p' h' E' val, e = .returned val ∧ K p' h' ∧ RelH E' h' w' ∧ Ext E w E' w' ∧ ModeOk E' w' p' (settle u')

section
variable (C : Ctx) (fn : Func) (K : Out → HS → Prop)
def resultQ (ts : List SV) (p : Option SV) (h : HS) : Prop :=
  match p with
  | none => match resK C.T h fn.results.toList ts with
    | some (q, vs) => q ∧ K (.ret (oneR vs)) h
    | none => False
  | some v => K (.pan v) h
def endQ (g' : Nat) (caps : List SV) (o : Out) (h : HS) : Prop :=
  match o with
  | .fin p ts => DefS C.P g' caps p h (resultQ C fn K ts)
  | _ => False
def dfrGo (g n : Nat) (f : SV) (ops : Array Oper) (idx : List Nat) (dst : Option Nat) (k : List It) (t : List SV) (h : HS) : Prop :=
  match f with
  | .func g' caps => C.F g' = true ∧ noInv k ∧ run C n g (.reg ops idx :: k) (put t dst .any) [] h (endQ C fn K g' caps)
  | _ => False
def dfrOp (g n : Nat) (o : Option Oper) (ops : Array Oper) (idx : List Nat) (k : List It) (t : List SV) (h : HS) : Prop :=
  match o with
  | some ⟨dst, .defer ⟨.value f, ⟨[]⟩, _⟩, _, _, _, none⟩ => dfrGo C fn K g n (ev t f) ops idx dst k t h
  | _ => False
def dfrQ (g n : Nat) (o : Out) (h : HS) : Prop :=
  match o with
  | .stop (.reg ops (i :: idx) :: k) t => dfrOp C fn K g n (getO ops.toList i) ops idx k t h
  | .fin p ts => resultQ C fn K ts p h
  | _ => False
end

theorem defer_chain {P : Program} {fr0 : Frame} {cs : List Frame} {w2 : World} {g' : Nat} {vs : Array Value} {ml : List Nat} {md : FrameMode} {R : Ending → FrameMode → World → Prop} (hu : fr0.mode = md) (hmd : md ≠ .run)
    (hds : fr0.defers = { target := .fn (.func g') vs, args := #[] } :: marks ml) (hi : (invoke (.fn (.func g') vs) #[]).run P w2 = .ok (.enter g' vs) w2) (hR : ∀ e u w, R e u w → ∃ val, e = .returned val) (hcd : CallsD P g' vs md w2 R) :
    ∃ val u' w3, R (.returned val) u' w3 ∧ Steps P (lone fr0 cs w2) (lone { fr0 with defers := marks ml, mode := settle u' } cs w3) := by
  have h1 := step_defer (P := P) (fr := fr0) (cs := cs) (w := w2) (d := { target := .fn (.func g') vs, args := #[] }) (ds := marks ml) (f := g') (args := vs) (by rw [hu]; exact hmd) hds rfl hi
  obtain ⟨e, u', w3, frX, hRe, hc, hkX, hgo⟩ := hcd { fr0 with defers := marks ml } cs hu
  obtain ⟨val, rfl⟩ := hR _ _ _ hRe
  refine ⟨val, u', w3, hRe, ?_⟩
  have h3 := step_going_returned (c := { fr0 with defers := marks ml, mode := u' }) (cs := cs) hkX hgo
  have hc' : Steps P (lone (Frame.enter P g' vs .deferred) ({ fr0 with defers := marks ml } :: cs) w2) (lone frX ({ fr0 with defers := marks ml, mode := u' } :: cs) w3) := hc
  exact (Steps.one h1).trans (hc'.trans (.one h3))

theorem calls_of_defer {C : Ctx} (hC : CtxOk C) {g : Nat} {fn : Func} {c : Code} (hf : C.FN g = some fn) (hb : fn.body = some c) (hD : C.D = some (slots fn.results.toList)) {args : List SV} {h : HS} {K : Out → HS → Prop} (n m : Nat)
    (hrun : run C n g [.code c] (catS args (anys (fn.ntmps - lenS args))) [] h (dfrQ C fn K g m)) : CallsS C.P g args h K := by
  intro E w vals hr hd cs
  have hP := hC.FN g fn hf
  -- what the end is worth
  let Fin : Ending → Machine → Prop := fun e m' => ∃ fr w', m' = lone fr cs w' ∧ Rel0 E w K e w' ∧ fr.fn = g ∧ fr.leaving C.P w' e
  let B0 : Bt := { ds := [], kd := .normal, Fin }
  have second : ∀ (g' : Nat) (caps : List SV) (vs : Array Value) (E1 : Env) (w1 : World) (s u : Nat) (l : List Nat), Ext E w E1 w1 → w.heap.size ≤ s → MarkOk E1 w1 s u l → C.F g' = true → DenA E1 w1 caps vs →
      BtOk C cs g { ds := { target := .fn (.func g') vs, args := #[] } :: marks l, kd := .normal, Fin } E1 w1 (endQ C fn K g' caps) := by
    intro g' caps vs E1 w1 s u ml hx1 hs hml hF hcaps
    refine ⟨fun h0 => (by rw [hD] at h0; cases h0), ?_, fun l hl k t h E w tmps s ds hq => (by simp only [endQ] at hq), fun h0 => (by rw [hD] at h0; cases h0)⟩
    intro l hl p t h2 E2 w2 tmps todo ro md hq hd2 hr2 hx2 hmd
    simp only [endQ] at hq
    have hl2 : l = slots fn.results.toList := by rw [hD] at hl; cases hl; rfl
    have hcd := hq E2 w2 vs md hr2 (hcaps.ext hx2) hmd
    have hmrun : md ≠ .run := by
      cases p with
      | none => simp only [ModeOk] at hmd; subst hmd; intro h; cases h
      | some v => obtain ⟨val, rfl, _⟩ := hmd; intro h; cases h
    let B1 : Bt := { ds := { target := .fn (.func g') vs, args := #[] } :: marks ml, kd := .normal, Fin }
    let fr0 : Frame := { fra B1 B1.ds ro g tmps todo with mode := md }
    obtain ⟨val, u', w3, ⟨p', h3, E3, val', hval, hk, hr3, hx3, hmd3⟩, hsteps⟩ := defer_chain (P := C.P) (fr0 := fr0) (cs := cs) (w2 := w2) (ml := ml) (md := md) rfl hmrun rfl (by simpa [invoke] using hC.F g' hF vs w2) (fun e u w hh => by obtain ⟨_, _, _, val, rfl, _⟩ := hh; exact ⟨val, rfl⟩) hcd
    refine Goal.of_steps hsteps ?_
    have hx13 := hx2.trans hx3
    have hml3 : MarkOk E3 w3 s u ml := ⟨hml.1, fun D hD' => by
      obtain ⟨a, b, c, d, e⟩ := hml.2 D hD'
      obtain ⟨k1, k2⟩ := hx13.keep D c d
      exact ⟨a, b, Nat.lt_of_lt_of_le c hx13.size, k1, k2.trans e⟩⟩
    have hsrun : settle u' ≠ .run := by
      cases p' with
      | none => simp only [ModeOk] at hmd3; rw [hmd3]; intro h; cases h
      | some v => obtain ⟨val, hh, _⟩ := hmd3; rw [hh]; intro h; cases h
    obtain ⟨w4, g1, g2⟩ := take_steps (P := C.P) (cs := cs) (D0 := []) ml { fr0 with defers := marks ml, mode := settle u' } w3 hsrun (by simp) hml3
    refine Goal.of_steps g1 ?_
    have hxE : Ext E w E3 w4 := g2.ext ((hx1.trans hx2).trans hx3) hs
    cases p' with
    | none =>
      simp only [ModeOk] at hmd3
      simp only [resultQ] at hk
      rw [hl2, resK_eq] at hk
      split at hk
      · rename_i q vs' hres
        obtain ⟨v, h1, h2⟩ := results_ok (P := C.P) hC.T (g2.denA (hd2.ext hx3)) (g2.rel hr3) fn hres hk.1
        exact ⟨.returned v, _, ⟨_, w4, rfl, ⟨.ret (oneR vs'), h3, E3, hk.2, g2.rel hr3, hxE, h2⟩, rfl, hmd3, rfl, rfl, fn, hP, h1⟩, Steps.refl _ _⟩
      · exact hk.elim
    | some v =>
      obtain ⟨val', hset, hv⟩ := hmd3
      exact ⟨.panicked [{ v := val', recovered := false }], _, ⟨_, w4, rfl, ⟨.pan v, h3, E3, hk, g2.rel hr3, hxE, val', rfl, g2.den hv⟩, rfl, hset, rfl, fn, hP⟩, Steps.refl _ _⟩
  have first : BtOk C cs g B0 E w (dfrQ C fn K g m) := by
    refine ⟨fun h0 => (by rw [hD] at h0; cases h0), fun l hl p t h2 E2 w2 tmps todo ro md hq hd2 hr2 hx2 hmd => ?_, ?_, fun h0 => (by rw [hD] at h0; cases h0)⟩
    · simp only [dfrQ] at hq
      have hl2 : l = slots fn.results.toList := by rw [hD] at hl; cases hl; rfl
      cases p with
      | none =>
        simp only [ModeOk] at hmd
        simp only [resultQ] at hq
        rw [hl2, resK_eq] at hq
        split at hq
        · rename_i q vs' hres
          obtain ⟨v, h1, h3⟩ := results_ok (P := C.P) hC.T hd2 hr2 fn hres hq.1
          exact ⟨.returned v, _, ⟨_, w2, rfl, ⟨.ret (oneR vs'), h2, E2, hq.2, hr2, hx2, h3⟩, rfl, hmd, rfl, rfl, fn, hP, h1⟩, Steps.refl _ _⟩
        · exact hq.elim
      | some v =>
        obtain ⟨val', hset, hv⟩ := hmd
        exact ⟨.panicked [{ v := val', recovered := false }], _, ⟨_, w2, rfl, ⟨.pan v, h2, E2, hq, hr2, hx2, val', rfl, hv⟩, rfl, hset, rfl, fn, hP⟩, Steps.refl _ _⟩
    intro l hl k t h1 E1 w1 tmps s ds hq hd1 hr1 hx1 hkb hds hws
    unfold dfrQ at hq
    split at hq
    · rename_i ops i idx k t heq
      cases heq
      unfold dfrOp at hq
      split at hq
      · rename_i dst f tys ty pos aft ho
        rw [getO_eq, Array.getElem?_toList] at ho
        unfold dfrGo at hq
        split at hq
        · rename_i g' caps hfv
          obtain ⟨hF, hinv, hrun2⟩ := hq
          have hrn : rnd k = none := (noInv_ok (C := C) (cs := cs) (B := B0) (E := E1) (w := w1) (s := 0) (u := 0) (fid := 0) (frs := []) hinv).2
          have kf := ev_den (a := ⟨tmps, ds⟩) hd1 f
          rw [hfv] at kf
          generalize hv : (⟨tmps, ds⟩ : Act).eval f = vf at kf
          cases kf
          rename_i vs hvs hcd
          obtain ⟨ml, e1, e2⟩ := hds
          have e1' : ds = marks ml := by rw [e1]; simp [B0]
          simp only [kb] at hkb
          have hro : rnf E1.rho (.reg ops (i :: idx) :: k) = none := by simp [rnf, rnd, hrn]
          rw [hro]
          have hstep := op_defer (P := C.P) (b := base B0 none g) (a := ⟨tmps, ds⟩) (k := items E1.rho k) (cs := cs) (w := w1) (rest := idx) (o := ⟨dst, .defer ⟨.value f, ⟨[]⟩, tys⟩, ty, pos, aft, none⟩) rfl ho (by simp [Region.wanted])
            (d := { target := .fn (.func g') vs, args := #[] }) (w' := w1) (by simp [execOp, resolve, hv, Deferred.ofValue])
          let B1 : Bt := { ds := { target := .fn (.func g') vs, args := #[] } :: marks ml, kd := .normal, Fin }
          refine Goal.step (m' := lone (fra B1 B1.ds (rnf E1.rho (.reg ops idx :: k)) g ((⟨tmps, []⟩ : Act).put dst undef).tmps (items E1.rho (.reg ops idx :: k))) cs w1) ?_ ?_
          · refine hstep.trans ?_
            have e : ∀ (ds : List Deferred), ((⟨tmps, ds⟩ : Act).put dst undef) = ⟨((⟨tmps, []⟩ : Act).put dst undef).tmps, ds⟩ := fun ds => by cases dst <;> rfl
            simp only
            rw [e, show rnf E1.rho (.reg ops idx :: k) = none from by simp [rnf, rnd, hrn], e1']
            rfl
          · have hsnd := run_sound m C hC cs g B1 E1 w1 _ (second g' caps vs E1 w1 s w1.heap.size ml hx1 hws e2 hF ⟨hvs, hcd⟩)
            exact hsnd g _ _ [] h1 hrun2 (fun _ => rfl) E1 w1 ((⟨tmps, []⟩ : Act).put dst undef).tmps [] w1.heap.size B1.ds (put_den hd1 _ (.any _)) hr1 (by simp only [StkOk]; exact Nat.le_refl _) (Nat.le_refl _) ⟨[], by simp [marks], by simp, fun D hD => by cases hD⟩ (by simp only [kb]; exact hkb) (by simp only [InvK]; exact (noInv_ok hinv).1) (Ext.refl E1 w1) rfl ⟨fn, hP⟩
        · exact hq.elim
      · exact hq.elim
    · rename_i heq; cases heq
    · exact hq.elim
  have hs := run_sound n C hC cs g B0 E w _ first g _ _ [] h hrun (fun _ => rfl) E w (vals ++ Array.replicate (fn.ntmps - vals.size) undef) [] w.heap.size [] (fill_den hd _) hr (by simp only [StkOk]; exact Nat.le_refl _) (Nat.le_refl _) (no_marks rfl _ _) (by simp only [kb]) (by simp only [InvK]) (Ext.refl E w) rfl ⟨fn, hP⟩
  obtain ⟨e, m', ⟨fr, w', rfl, ⟨o, h', E', q1, q2, q3, q4⟩, hfn, hl⟩, hc⟩ := hs
  rw [enter_fra (B := B0) rfl hP hb]
  refine ⟨e, w', fr, ⟨o, h', E', q1, q2, q3, ?_⟩, hc, hfn, hl⟩
  cases o <;> cases e <;> exact q4

/- ### the deferred function -/
def rcvEnd (K : Option SV → HS → Prop) (o : Out) (h : HS) : Prop :=
  match o with
  | .fin none _ => K none h
  | _ => False
def gotS (p : Option SV) : SV :=
  match p with
  | none => .nili
  | some v => v
def rcvOp (C : Ctx) (p : Option SV) (K : Option SV → HS → Prop) (g n : Nat) (o : Option Oper) (ops : Array Oper) (idx : List Nat) (k : List It) (t : List SV) (h : HS) : Prop :=
  match o with
  | some ⟨dst, .call ⟨.builtin .recover, ⟨[]⟩, _⟩, _, _, _, none⟩ => noInv k ∧ run C n g (.reg ops idx :: k) (put t dst (gotS p)) [] h (rcvEnd K)
  | _ => False
def rcvQ (C : Ctx) (p : Option SV) (K : Option SV → HS → Prop) (g n : Nat) (o : Out) (h : HS) : Prop :=
  match o with
  | .stop (.reg ops (i :: idx) :: k) t => rcvOp C p K g n (getO ops.toList i) ops idx k t h
  | _ => False

theorem defS_of_run {C : Ctx} (hC : CtxOk C) {g : Nat} {fn : Func} {c : Code} (hf : C.FN g = some fn) (hb : fn.body = some c) (hres : fn.results = #[]) (hD : C.D = some []) {args : List SV} {h : HS} {p : Option SV} {K : Option SV → HS → Prop} (n m : Nat)
    (hrun : run C n g [.code c] (catS args (anys (fn.ntmps - lenS args))) [] h (rcvQ C p K g m)) : DefS C.P g args p h K := by
  intro E w vals md hr hd hmd c0 cs hu
  have hP := hC.FN g fn hf
  let Fin : Ending → Machine → Prop := fun e m' => ∃ fr u' w', m' = lone fr ({ c0 with mode := u' } :: cs) w' ∧ (∃ p' h' E' val, e = .returned val ∧ K p' h' ∧ RelH E' h' w' ∧ Ext E w E' w' ∧ ModeOk E' w' p' (settle u')) ∧ fr.kind = .deferred ∧ fr.going C.P w' e
  let B : Bt := { ds := [], kd := .deferred, Fin }
  -- after the recovery: the frame beneath returns
  have second : ∀ (u' : FrameMode), settle u' = .returning → BtOk C ({ c0 with mode := u' } :: cs) g B E w (rcvEnd K) := by
    intro u' hset
    refine ⟨fun h0 => (by rw [hD] at h0; cases h0), ?_, fun l hl k t h E w tmps s ds hq => (by simp only [rcvEnd] at hq), fun h0 => (by rw [hD] at h0; cases h0)⟩
    intro l hl p2 t h2 E2 w2 tmps todo ro md2 hq hd2 hr2 hx2 hmd2
    cases p2 with
    | some v => simp only [rcvEnd] at hq
    | none =>
      simp only [rcvEnd] at hq
      simp only [ModeOk] at hmd2
      subst hmd2
      refine ⟨.returned (.tuple #[]), _, ⟨{ fra B B.ds ro g tmps todo with mode := .returning }, u', w2, rfl, ⟨none, h2, E2, .tuple #[], rfl, hq, hr2, hx2, hset⟩, rfl, rfl, rfl, fn, hP, ?_⟩, Steps.refl _ _⟩
      simp [results, hres]
  have first : BtOk C (c0 :: cs) g B E w (rcvQ C p K g m) := by
    refine ⟨fun h0 => (by rw [hD] at h0; cases h0), fun l hl p t h E w tmps todo ro md hq => (by simp only [rcvQ] at hq), ?_, fun h0 => (by rw [hD] at h0; cases h0)⟩
    intro l hl k t h1 E1 w1 tmps s ds hq hd1 hr1 hx1 hkb hds hws
    unfold rcvQ at hq
    split at hq
    · rename_i ops i idx k t heq
      cases heq
      unfold rcvOp at hq
      split at hq
      · rename_i dst tys ty pos aft ho
        rw [getO_eq, Array.getElem?_toList] at ho
        obtain ⟨hinv, hrun2⟩ := hq
        have hrn : rnd k = none := (noInv_ok (C := C) (cs := cs) (B := B) (E := E1) (w := w1) (s := 0) (u := 0) (fid := 0) (frs := []) hinv).2
        simp only [kb] at hkb
        have hro : rnf E1.rho (.reg ops (i :: idx) :: k) = none := by simp [rnf, rnd, hrn]
        rw [hro]
        have hex : (execOp (⟨tmps, ds⟩ : Act).eval ⟨dst, .call ⟨.builtin .recover, ⟨[]⟩, tys⟩, ty, pos, aft, none⟩).run C.P w1 = .ok .recover w1 := by
          simp [execOp, resolve, invoke, builtin]
        have e : ∀ v (k' : List Item), (base B none g).atR ((⟨tmps, ds⟩ : Act).put dst v) k' = fra B ds none g ((⟨tmps, []⟩ : Act).put dst v).tmps k' := fun v k' => by cases dst <;> rfl
        have hds' : DsOk E1 w1 B (min s w1.heap.size) w1.heap.size ds := by
          obtain ⟨ml, a1, a2, a3⟩ := hds
          exact ⟨ml, a1, a2, fun D hD => by obtain ⟨b1, b2⟩ := a3 D hD; exact ⟨by omega, b2⟩⟩
        have hsz := hx1.size
        have go : ∀ (u' : FrameMode) (v : Value), settle u' = .returning → Den E1 w1 (gotS p) v → Goal C B (lone (fra B ds none g ((⟨tmps, []⟩ : Act).put dst v).tmps (items E1.rho (.reg ops idx :: k))) ({ c0 with mode := u' } :: cs) w1) := by
          intro u' v hset hv
          have hsnd := run_sound m C hC ({ c0 with mode := u' } :: cs) g B E w _ (second u' hset)
          have hro2 : rnf E1.rho (.reg ops idx :: k) = none := by simp [rnf, rnd, hrn]
          rw [← hro2]
          exact hsnd g _ _ [] h1 hrun2 (fun _ => rfl) E1 w1 _ [] (min s w1.heap.size) ds (put_den hd1 _ hv) hr1 (by simp only [StkOk]; omega) (by omega) hds' (by simp only [kb]; exact hkb) (by simp only [InvK]; exact (noInv_ok hinv).1) hx1 rfl ⟨fn, hP⟩
        cases p with
        | none =>
          simp only [ModeOk] at hmd
          have hrec : recoverD (c0 :: cs) = none := by simp [recoverD, hu, hmd]
          refine Goal.step (op_recover_none (P := C.P) (b := base B none g) (a := ⟨tmps, ds⟩) (k := items E1.rho k) (cs := c0 :: cs) (w := w1) (rest := idx) rfl rfl ho (by simp [Region.wanted]) hex hrec) ?_
          rw [e]
          have := go md .nilIface (by rw [hmd]; rfl) .nili
          have hc : ({ c0 with mode := md } : Frame) = c0 := by subst hu; rfl
          rw [hc] at this
          exact this
        | some v =>
          obtain ⟨val, hm, hv⟩ := hmd
          have hrec : recoverD (c0 :: cs) = some (val, { c0 with mode := .panicking [{ v := val, recovered := true }] } :: cs) := by simp [recoverD, hu, hm]
          refine Goal.step (op_recover (P := C.P) (b := base B none g) (a := ⟨tmps, ds⟩) (k := items E1.rho k) (cs := c0 :: cs) (w := w1) (rest := idx) rfl rfl ho (by simp [Region.wanted]) hex hrec) ?_
          rw [e]
          exact go _ val (by simp [settle]) (hv.ext hx1)
      · exact hq.elim
    · exact hq.elim
  have hs := run_sound n C hC (c0 :: cs) g B E w _ first g _ _ [] h hrun (fun _ => rfl) E w (vals ++ Array.replicate (fn.ntmps - vals.size) undef) [] w.heap.size [] (fill_den hd _) hr (by simp only [StkOk]; exact Nat.le_refl _) (Nat.le_refl _) (no_marks rfl _ _) (by simp only [kb]) (by simp only [InvK]) (Ext.refl E w) rfl ⟨fn, hP⟩
  obtain ⟨e, m', ⟨fr, u', w', rfl, h1, h2, h3⟩, hc⟩ := hs
  have henter : Frame.enter C.P g vals .deferred = fra B [] none g (vals ++ Array.replicate (fn.ntmps - vals.size) undef) [.code c] := by
    simp [Frame.enter, fra, hP, hb, B]
  rw [henter]
  exact ⟨e, u', w', fr, h1, hc, h2, h3⟩
/-- A contract that says less of memory. -/
theorem calls_trim {P : Program} {g : Nat} {args : List SV} {h : HS} {K K' : Out → HS → Prop} (hc : CallsS P g args h K)
    (ht : ∀ o h', K o h' → ∃ x y h'', (o = .ret x ∧ K' (.ret y) h'') ∧ SubS [x] h' ([y], h'') ∧ (lenB h.blks ≤ lenB h''.blks ∧ lenB h''.blks ≤ lenB h'.blks) ∧ (lenV h.vecs ≤ lenV h''.vecs ∧ lenV h''.vecs ≤ lenV h'.vecs)) : CallsS P g args h K' := by
  intro E w vals hr hd
  refine (hc E w vals hr hd).mono ?_
  rintro e w' ⟨o, h', E', hk, hr', hx, hout⟩
  obtain ⟨x, y, h'', ⟨rfl, hk'⟩, hsub, ⟨hB, hB2⟩, ⟨hV, hV2⟩⟩ := ht o h' hk
  cases e with
  | panicked _ => exact hout.elim
  | outgrown => exact hout.elim
  | returned val =>
    have hd1 : DenA E' w' [x] #[val] := ⟨rfl, fun i z u hz hu => by
      cases i with
      | zero => simp at hz hu; subst hz hu; exact hout
      | succ i => simp at hz⟩
    obtain ⟨g1, g2⟩ := hsub.go hd1 hr' (lenB h''.blks) (lenV h''.vecs) rfl rfl (by rw [hr'.nb]; exact hB2) (by rw [hr'.nv]; exact hV2)
    exact ⟨.ret y, h'', _, hk', g2, ⟨hx.os, hx.tape, hx.output, hx.size, by simp only []; rw [hr.nb]; exact hB, by simp only []; rw [hr.nv]; exact hV, hx.rho, hx.val, hx.keep, hx.oth⟩, g1.2 0 y val rfl rfl⟩
end Go.Eng
end

/- Conditions of results, reckoned. -/
section
namespace Go.Eng
open Go.RowKit
set_option linter.unusedVariables false

/-- What a result asks. -/
def cnd : Res → Prop
  | .val p _ _ => p
  | .skip p _ => p
  | .callN p _ _ _ => p
  | .pick c _ _ _ _ _ _ => c
  | _ => True
/-- Memory is what it was. -/
def same (h : HS) : Res → Prop
  | .val _ _ h' => h' = h
  | _ => True

/-- Of the two values it is the second. -/
def nfk : Res → Prop
  | .fork p _ _ _ => ¬ p
  | _ => True
def nfNil (h : HS) (a : SV) : Bool :=
  match a with
  | .row n _ _ => !decide (n = 0)
  | .vec id ver => match getV h.vecs id with
    | .live ver' _ _ n _ => decide (ver = ver') && !decide (n = 0)
    | .dead => true
  | .vcut id ver _ _ n _ => match getV h.vecs id with
    | .live ver' _ _ N _ => decide (ver = ver') && (!decide (n = 0) && !decide (N = 0))
    | .dead => true
  | _ => true
theorem nfNil_ok {ti : Option TI} {op : BinOp} {a : SV} {h : HS} (hd : nfNil h a = true) : nfk (rEqNil ti op a h) := by
  unfold rEqNil
  split
  · split
    · split <;> (try trivial)
      · simpa [nfk, nfNil] using hd
      · simpa [nfk, nfNil] using hd
      · unfold vNil
        split
        · rename_i hv; simp only [nfNil, hv, Bool.and_eq_true, decide_eq_true_eq, Bool.not_eq_true', decide_eq_false_iff_not] at hd; rw [hv]; intro hp; have := hp hd.1; simp only [nOf] at this; omega
        · trivial
      · unfold vNil
        split
        · rename_i hv; simp only [nfNil, hv, Bool.and_eq_true, decide_eq_true_eq, Bool.not_eq_true', decide_eq_false_iff_not] at hd; rw [hv]; intro hp; have := hp hd.1; simp only [nOf] at this; omega
        · trivial
      · unfold vNil
        split
        · rename_i hv; simp only [nfNil, hv, Bool.and_eq_true, decide_eq_true_eq, Bool.not_eq_true', decide_eq_false_iff_not] at hd; intro hp; have := hp hd.1; omega
        · trivial
      · unfold vNil
        split
        · rename_i hv; simp only [nfNil, hv, Bool.and_eq_true, decide_eq_true_eq, Bool.not_eq_true', decide_eq_false_iff_not] at hd; intro hp; have := hp hd.1; omega
        · trivial
    · trivial
  · trivial
def dBin (op : BinOp) (a b : SV) : Bool :=
  match op, a, b with
  | .quo, .int _ _, .int _ y => !decide (y = 0)
  | .rem, .int _ _, .int _ y => !decide (y = 0)
  | .shr, .int _ _, .int _ y => decide (0 ≤ y)
  | _, _, _ => true
theorem dBin_ok {op : BinOp} {a b : SV} {h : HS} (hd : dBin op a b = true) : cnd (rBin op a b h) := by
  unfold rBin
  split <;> (try split) <;> first | trivial | (simpa [cnd, dBin] using hd)
theorem neO_c {op : BinOp} {q : Bool} {h : HS} : cnd (neO op q h) ∧ same h (neO op q h) := by
  unfold neO; split <;> first | exact ⟨trivial, rfl⟩ | exact ⟨trivial, trivial⟩
theorem rBin_s {op : BinOp} {a b : SV} {h : HS} : same h (rBin op a b h) := by
  unfold rBin; split <;> (try split) <;> first | rfl | trivial
theorem rEqA_c {ti : Option TI} {op : BinOp} {l m : List SV} {h : HS} : cnd (rEqA ti op l m h) ∧ same h (rEqA ti op l m h) := by
  unfold rEqA; repeat' split
  all_goals first | exact neO_c | exact ⟨trivial, trivial⟩
theorem rEqB_c {ti : Option TI} {op : BinOp} {x y : Bool} {h : HS} : cnd (rEqB ti op x y h) ∧ same h (rEqB ti op x y h) := by
  unfold rEqB; repeat' split
  all_goals first | exact neO_c | exact ⟨trivial, trivial⟩
theorem rEqI_c {ti : Option TI} {op : BinOp} {q : Bool} {h : HS} : cnd (rEqI ti op q h) ∧ same h (rEqI ti op q h) := by
  unfold rEqI; repeat' split
  all_goals first | exact neO_c | exact ⟨trivial, trivial⟩
theorem rEqF_c {ti : Option TI} {op : BinOp} {q : Bool} {h : HS} : cnd (rEqF ti op q h) ∧ same h (rEqF ti op q h) := by
  unfold rEqF; repeat' split
  all_goals first | exact neO_c | exact ⟨trivial, trivial⟩
theorem rEqNil_c {ti : Option TI} {op : BinOp} {a : SV} {h : HS} : cnd (rEqNil ti op a h) ∧ same h (rEqNil ti op a h) := by
  unfold rEqNil vNil; repeat' split
  all_goals first | exact ⟨trivial, rfl⟩ | exact ⟨trivial, trivial⟩
theorem rBin2_c {ti : Option TI} {c : Bool} {op : BinOp} {a b : SV} {h : HS} (hd : dBin op a b = true) : cnd (rBin2 ti c op a b h) := by
  unfold rBin2; repeat' split
  all_goals first | exact dBin_ok hd | exact rEqA_c.1 | exact rEqB_c.1 | exact rEqI_c.1 | exact rEqF_c.1 | trivial
theorem rBin2_s {ti : Option TI} {c : Bool} {op : BinOp} {a b : SV} {h : HS} : same h (rBin2 ti c op a b h) := by
  unfold rBin2; repeat' split
  all_goals first | exact rBin_s | exact rEqA_c.2 | exact rEqB_c.2 | exact rEqI_c.2 | exact rEqF_c.2 | trivial
def dBin3 (op : BinOp) (nl : Bool) (a b : SV) : Bool := match nl with
  | true => true
  | false => dBin op a b
theorem rBin3_c {ti : Option TI} {c nl : Bool} {op : BinOp} {a b : SV} {h : HS} (hd : dBin3 op nl a b = true) : cnd (rBin3 ti c op nl a b h) := by
  unfold rBin3; split
  · exact rEqNil_c.1
  · exact rBin2_c hd
theorem rBin3_s {ti : Option TI} {c nl : Bool} {op : BinOp} {a b : SV} {h : HS} : same h (rBin3 ti c op nl a b h) := by
  unfold rBin3; split
  · exact rEqNil_c.2
  · exact rBin2_s

def dLoad (ti : TI) (h : HS) (addr : SV) : Bool :=
  match addr with
  | .ptr nm off => match getB h.blks nm with
    | .live _ cells => decide (off + ti.size ≤ lenS cells)
    | _ => true
  | .rptr sz f => decide (ti.size ≤ sz)
  | .vptr id ver sz i off => match getV h.vecs id with
    | .live ver' _ sz' n f => decide (ver = ver') && decide (sz = sz') && decide (i < n) && decide (off + ti.size ≤ sz)
    | .dead => true
  | _ => true
theorem dLoad_ok {ti : TI} {h : HS} {x : SV} (hd : dLoad ti h x = true) : cnd (rLoad ti h x) := by
  unfold dLoad at hd; unfold rLoad
  split
  · split
    · rename_i hb; simpa [cnd, hb] using hd
    · trivial
  · simpa [cnd] using hd
  · split
    · rename_i hb; simpa [cnd, hb, and_assoc] using hd
    · trivial
  · trivial
theorem rLoad_s {ti : TI} {h : HS} {x : SV} : same h (rLoad ti h x) := by
  unfold rLoad; repeat' split
  all_goals first | rfl | trivial
def dStore (ti : TI) (h : HS) (addr v : SV) : Bool :=
  match cellsOf v with
  | none => true
  | some l => match addr with
    | .ptr nm off => match getB h.blks nm with
      | .live ty cells => decide (lenS l = ti.size) && decide (off + ti.size ≤ lenS cells)
      | _ => true
    | .vptr id ver sz i off => match getV h.vecs id with
      | .live ver' ty sz' n f => decide (lenS l = ti.size) && decide (ver = ver') && decide (sz = sz') && decide (i < n) && decide (off + ti.size ≤ sz)
      | .dead => true
    | _ => true
theorem dStore_ok {ti : TI} {h : HS} {x y : SV} (hd : dStore ti h x y = true) : cnd (rStore ti h x y) := by
  unfold dStore at hd; unfold rStore
  split
  · trivial
  · rename_i hc
    simp only [hc] at hd
    split
    · split
      · rename_i hb; simpa [cnd, hb] using hd
      · trivial
    · split
      · rename_i hb; simpa [cnd, hb, and_assoc] using hd
      · trivial
    · trivial
def dField (ti : TI) (x : SV) (k : Nat) : Bool :=
  match ti.kind with
  | .struct offs => match nthO offs k with
    | some (o, _) => match x with
      | .rptr sz f => decide (o ≤ sz)
      | _ => true
    | none => true
  | _ => true
theorem dField_ok {ti : TI} {h : HS} {x : SV} {k : Nat} (hd : dField ti x k = true) : cnd (rField ti h x k) := by
  unfold dField at hd; unfold rField
  split
  · rename_i hk
    split
    · rename_i hn
      simp only [hk, hn] at hd
      split
      · trivial
      · simpa [cnd] using hd
      · trivial
      · trivial
    · trivial
  · trivial
theorem rField_s {ti : TI} {h : HS} {x : SV} {k : Nat} : same h (rField ti h x k) := by
  unfold rField; repeat' split
  all_goals first | rfl | trivial
def dIndex (ti : TI) (se : Nat) (h : HS) (x idx : SV) : Bool :=
  match ti.kind, x, idx with
  | .slice _, .row n sz f, .int _ i => decide (se = sz) && decide (0 ≤ i) && decide (i < (n : Int))
  | .slice _, .vec id ver, .int _ i => match getV h.vecs id with
    | .live ver' _ sz n _ => decide (ver = ver') && decide (se = sz) && decide (0 ≤ i) && decide (i < (n : Int))
    | .dead => true
  | .array n _, .ptr nm off, .int _ i => decide (0 ≤ i) && decide (i < (n : Int))
  | .slice _, .vcut id ver sz lo n _, .int _ i => match getV h.vecs id with
    | .live ver' _ sz' _ _ => decide (ver = ver') && decide (sz = sz') && decide (se = sz) && decide (0 ≤ i) && decide (i < (n : Int))
    | .dead => true
  | .slice _, .bsl nm off n, .int _ i => decide (se = 1) && decide (0 ≤ i) && decide (i < (n : Int))
  | _, _, _ => true
theorem dIndex_ok {ti : TI} {se : Nat} {h : HS} {x idx : SV} (hd : dIndex ti se h x idx = true) : cnd (rIndex ti se h x idx) := by
  unfold rIndex
  split
  · rename_i hk; simpa [cnd, dIndex, hk, and_assoc] using hd
  · rename_i hk
    split
    · rename_i hb; simpa [cnd, dIndex, hk, hb, and_assoc] using hd
    · trivial
  · rename_i hk; simpa [cnd, dIndex, hk, and_assoc] using hd
  · rename_i hk
    split
    · rename_i hb; simpa [cnd, dIndex, hk, hb, and_assoc] using hd
    · trivial
  · rename_i hk; simpa [cnd, dIndex, hk, and_assoc] using hd
  · trivial
theorem rIndex_s {ti : TI} {se : Nat} {h : HS} {x idx : SV} : same h (rIndex ti se h x idx) := by
  unfold rIndex; repeat' split
  all_goals first | rfl | trivial
theorem lenI_c {es : List (List Int × List Int)} {h : HS} {o : Option (Nat × Nat × List Nat)} : cnd (lenI es h o) ∧ same h (lenI es h o) := by
  unfold lenI; split <;> first | exact ⟨trivial, rfl⟩ | exact ⟨trivial, trivial⟩
def dLen (ti : TI) (h : HS) (x : SV) : Bool :=
  match ti.kind, x with
  | .slice _, .vec id ver => match getV h.vecs id with
    | .live ver' _ _ n _ => decide (ver = ver')
    | .dead => true
  | _, _ => true
theorem dLen_ok {ti : TI} {h : HS} {x : SV} (hd : dLen ti h x = true) : cnd (rLen ti h x) := by
  unfold rLen
  split <;> (try trivial)
  · rename_i hk
    split
    · rename_i hb; simpa [cnd, dLen, hk, hb] using hd
    · trivial
  · split <;> first | exact lenI_c.1 | trivial
theorem rLen_s {ti : TI} {h : HS} {x : SV} : same h (rLen ti h x) := by
  unfold rLen; repeat' split
  all_goals first | rfl | exact lenI_c.2 | trivial
def dFill (place : Nat → Option (Nat × Nat)) : List (Nat × SV) → List SV → Bool
  | [], cells => true
  | (i, x) :: r, cells => match place i, cellsOf x with
    | some (off, size), some l => decide (lenS l = size) && decide (off + size ≤ lenS cells) && dFill place r (over cells off l)
    | _, _ => true
theorem dFill_ok {place : Nat → Option (Nat × Nat)} : ∀ {ps : List (Nat × SV)} {cells : List SV} {p : Prop} {c : List SV}, dFill place ps cells = true → fillS place ps cells = some (p, c) → p
  | [], cells, p, c, _, h => by simp only [fillS, Option.some.injEq, Prod.mk.injEq] at h; exact h.1 ▸ trivial
  | (i, x) :: r, cells, p, c, hd, h => by
    simp only [fillS] at h
    simp only [dFill] at hd
    split at h
    · rename_i off size l h1 h2
      simp only [h1, h2, Bool.and_eq_true, decide_eq_true_eq] at hd
      split at h
      · rename_i p' c' h3
        simp only [Option.some.injEq, Prod.mk.injEq] at h
        exact h.1 ▸ ⟨hd.1, dFill_ok hd.2 h3⟩
      · cases h
    · cases h
def dBuild (ti : TI) (se : Nat) (ps : List (Nat × SV)) : Bool :=
  match ti.kind with
  | .struct offs => dFill (placeS offs) ps (zcs ti.zero)
  | .array _ _ => dFill (placeA se) ps (zcs ti.zero)
  | _ => true
theorem fin2_c {place : Nat → Option (Nat × Nat)} {ps : List (Nat × SV)} {cells : List SV} {h : HS} (hd : dFill place ps cells = true) : cnd (fin2 (fillS place ps cells) h) := by
  unfold fin2
  split
  · rename_i hf; exact dFill_ok hd hf
  · trivial
theorem dBuild_ok {ti : TI} {se : Nat} {ps : List (Nat × SV)} {h : HS} (hd : dBuild ti se ps = true) : cnd (rBuild ti se ps h) := by
  unfold dBuild at hd; unfold rBuild
  split
  · rename_i hk; rw [hk] at hd; exact fin2_c hd
  · rename_i hk; rw [hk] at hd; exact fin2_c hd
  · trivial
theorem rBuild_same {ti : TI} {se : Nat} {ps : List (Nat × SV)} {h : HS} : same h (rBuild ti se ps h) := by
  unfold rBuild fin2; repeat' split
  all_goals first | rfl | trivial
def dBuildSlice (te : TI) (len : Nat) (ps : List (Nat × SV)) : Bool :=
  match len, ps with
  | 0, [] => decide (0 < te.size)
  | _, _ => dFill (placeA te.size) ps (repZ (zcs te.zero) len) && decide (0 < te.size) && decide (0 < len) && decide (len * te.size ≤ 16777216)
theorem dBuildSlice_ok {e : TypeId} {te : TI} {len : Nat} {ps : List (Nat × SV)} {h : HS} (hd : dBuildSlice te len ps = true) : cnd (rBuildSlice e te len ps h) := by
  unfold rBuildSlice
  split
  · simpa [cnd, dBuildSlice] using hd
  · rename_i hne
    unfold dBuildSlice at hd
    split at hd
    · exact (hne rfl rfl).elim
    · simp only [Bool.and_eq_true, decide_eq_true_eq] at hd
      unfold fin3
      split
      · rename_i hf; exact ⟨dFill_ok hd.1.1.1 hf, hd.1.1.2, hd.1.2, hd.2⟩
      · trivial
def dExtract (x : SV) (i : Nat) : Bool := match x with
  | .tup l => decide (i < lenS l)
  | _ => true
theorem dExtract_ok {x : SV} {i : Nat} {h : HS} (hd : dExtract x i = true) : cnd (rExtract x i h) := by
  unfold rExtract; split
  · simpa [cnd, dExtract] using hd
  · trivial
def dSlice (ti : TI) (x : SV) (lo hi : Option SV) : Bool :=
  match ti.kind, x, lo, hi with
  | .slice _, .row n sz f, some (.int _ l), some (.int _ u) => decide (0 ≤ l) && decide (l ≤ u) && decide (u ≤ (n : Int))
  | .slice _, .row n sz f, some (.int _ l), none => decide (0 ≤ l) && decide (l ≤ (n : Int))
  | .slice _, .row n sz f, none, some (.int _ u) => decide (0 ≤ u) && decide (u ≤ (n : Int))
  | _, _, _, _ => true
theorem dSlice_ok {ti : TI} {x : SV} {lo hi : Option SV} {h : HS} (hd : dSlice ti x lo hi = true) : cnd (rSlice ti x lo hi h) := by
  unfold rSlice
  split
  · rename_i hk; simpa [cnd, dSlice, hk, and_assoc] using hd
  · rename_i hk; simpa [cnd, dSlice, hk, and_assoc] using hd
  · rename_i hk; simpa [cnd, dSlice, hk, and_assoc] using hd
  · trivial
def dSrc (h : HS) : SV → Bool
  | .vec id ver => match getV h.vecs id with
    | .live ver' _ _ _ _ => decide (ver = ver')
    | .dead => true
  | .vcut id ver sz lo n _ => match getV h.vecs id with
    | .live ver' _ sz' _ _ => decide (ver = ver') && decide (sz = sz')
    | .dead => true
  | .bsl nm off n => match getB h.blks nm with
    | .live _ cells => decide (off + n ≤ lenS cells)
    | _ => true
  | _ => true
theorem dSrc_ok {h : HS} {x : SV} {p : Prop} {q : Nat × Nat × (Nat → Nat → SV)} (hd : dSrc h x = true) (hs : srcOf h x = some (p, q)) : p := by
  unfold dSrc at hd
  unfold srcOf at hs
  split at hs
  · cases hs; trivial
  · unfold srcV at hs
    split at hs
    · rename_i hb; cases hs; simpa [hb] using hd
    · cases hs
  · unfold srcC at hs
    split at hs
    · rename_i hb; cases hs; simpa [hb] using hd
    · cases hs
  · unfold srcB at hs
    split at hs
    · rename_i hb; cases hs; simpa [hb] using hd
    · cases hs
  · cases hs; trivial
  · cases hs
def dAp (e : TypeId) (te : TI) (ver ver' e' sz n : Nat) (lo0 : Bool) (s : Option (Prop × Nat × Nat × (Nat → Nat → SV))) : Bool := match s with
  | some (_, m, sz', _) => decide (ver = ver') && decide (e = e') && decide (sz = te.size) && decide (sz' = sz) && lo0 && decide (((n + m : Nat) : Int) * (te.bytes : Int) ≤ 140737488355328) && decide (((n + m : Nat) : Int) ≤ 9223372036854775807)
  | none => true
def dPos (s : Option (Prop × Nat × Nat × (Nat → Nat → SV))) : Bool := match s with
  | some (_, m, _, _) => decide (0 < m)
  | none => true
def dAppend (e : TypeId) (te : TI) (s x : SV) (h : HS) : Bool :=
  dSrc h x && match s with
  | .vec id ver => match getV h.vecs id with
    | .live ver' e' sz n f => dAp e te ver ver' e' sz n true (srcOf h x)
    | .dead => true
  | .vcut id ver sz lo n x1 => match getV h.vecs id with
    | .live ver' e' sz2 _ f => dAp e te ver ver' e' sz n (decide (sz2 = sz) && (decide (lo = 0) || (x1 && dPos (srcOf h x)))) (srcOf h x)
    | .dead => true
  | .nils e' sz => dAp e te 0 0 e' sz 0 true (srcOf h x)
  | _ => true
theorem dAppend_ok {e : TypeId} {te : TI} {s x : SV} {h : HS} (hd : dAppend e te s x h = true) : cnd (rAppend e te s x h) := by
  unfold dAppend at hd
  rw [Bool.and_eq_true] at hd
  obtain ⟨h1, h2⟩ := hd
  have hp : ∀ p q, srcOf h x = some (p, q) → p := fun p q hs => dSrc_ok h1 hs
  unfold rAppend
  split
  · unfold apV
    split
    · rename_i hv hs
      have := hp _ _ hs
      simp only [hv, hs, dAp, Bool.and_eq_true, decide_eq_true_eq] at h2
      simp only [cnd]
      exact ⟨this, h2.1.1.1.1.1.1, h2.1.1.1.1.1.2, h2.1.1.1.1.2, h2.1.1.1.2, h2.1.2, h2.2⟩
    · trivial
  · unfold apCX
    split
    · unfold apX
      split
      · rename_i hv hs
        have := hp _ _ hs
        simp only [hv, hs, dAp, dPos, Bool.and_eq_true, Bool.or_eq_true, decide_eq_true_eq] at h2
        simp only [cnd]
        obtain ⟨⟨⟨⟨⟨⟨a1, a2⟩, a3⟩, a4⟩, a5, a6⟩, a7⟩, a8⟩ := h2
        refine ⟨this, ?_, a1, a2, a3, a5, a4, a7, a8⟩
        rcases a6 with a6 | a6
        · omega
        · exact a6.2
      · trivial
    · rename_i hne
      unfold apC
      split
      · rename_i hv hs
        have := hp _ _ hs
        simp only [hv, hs, dAp, dPos, Bool.and_eq_true, Bool.or_eq_true, decide_eq_true_eq] at h2
        simp only [cnd]
        obtain ⟨⟨⟨⟨⟨⟨a1, a2⟩, a3⟩, a4⟩, a5, a6⟩, a7⟩, a8⟩ := h2
        refine ⟨this, a1, a2, a3, a5, a4, ?_, a7, a8⟩
        rcases a6 with a6 | a6
        · exact a6
        · skip
          exact Decidable.byContradiction fun h0 => hne _ (Nat.succ_pred_eq_of_ne_zero h0).symm a6.1
      · trivial
  · unfold apN
    split
    · rename_i hs
      have := hp _ _ hs
      simp only [hs, dAp, Bool.and_eq_true, decide_eq_true_eq] at h2
      simp only [cnd]
      exact ⟨this, h2.1.1.1.1.1.2, h2.1.1.1.1.2, h2.1.1.1.2, h2.1.2, h2.2⟩
    · trivial
  · trivial
def dCut (n : Nat) (l u : Option Int) (mx : Option SV) : Bool :=
  match l, u with
  | some l, some u => (match mx with
    | some (.int _ m) => decide (m = u)
    | _ => true) && decide (0 ≤ l) && decide (l ≤ u) && decide (u ≤ (n : Int))
  | _, _ => true
theorem dCut_ok {p : Prop} {id ver sz lo n : Nat} {h : HS} {l u : Option Int} {mx : Option SV} (hp : p) (hd : dCut n l u mx = true) : cnd (cutR p id ver sz lo n h l u mx) := by
  unfold cutR
  split
  · rename_i l u
    simp only [dCut, Bool.and_eq_true, decide_eq_true_eq] at hd
    obtain ⟨⟨⟨h1, h2⟩, h3⟩, h4⟩ := hd
    unfold maxO
    split
    · rename_i q x hm
      split at hm
      · cases hm; exact ⟨hp, trivial, h2, h3, h4⟩
      · cases hm; exact ⟨hp, by simpa using h1, h2, h3, h4⟩
      · cases hm
    · trivial
  · trivial
theorem cutR_s {p : Prop} {id ver sz lo n : Nat} {h : HS} {l u : Option Int} {mx : Option SV} : same h (cutR p id ver sz lo n h l u mx) := by
  unfold cutR; repeat' split
  all_goals first | rfl | trivial
def dSliceV (se : Nat) (x : SV) (lo hi mx : Option SV) (h : HS) : Bool :=
  match x with
  | .vec id ver => match getV h.vecs id with
    | .live ver' _ sz n _ => decide (ver = ver') && decide (se = sz) && dCut n (intO 0 lo) (intO (n : Int) hi) mx
    | .dead => true
  | .vcut id ver sz lo0 n x => decide (se = sz) && dCut n (intO 0 lo) (intO (n : Int) hi) mx
  | _ => true
theorem dSliceV_ok {se : Nat} {x : SV} {lo hi mx : Option SV} {h : HS} (hd : dSliceV se x lo hi mx h = true) : cnd (rSliceV se x lo hi mx h) := by
  unfold rSliceV
  split
  · unfold sliV
    split
    · rename_i hv
      simp only [dSliceV, hv, Bool.and_eq_true, decide_eq_true_eq] at hd
      exact dCut_ok hd.1 hd.2
    · trivial
  · simp only [dSliceV, Bool.and_eq_true, decide_eq_true_eq] at hd
    unfold sliC
    split
    · trivial
    · exact dCut_ok hd.1 hd.2
  · trivial
theorem rSliceV_s {se : Nat} {x : SV} {lo hi mx : Option SV} {h : HS} : same h (rSliceV se x lo hi mx h) := by
  unfold rSliceV sliV sliC; repeat' split
  all_goals first | exact cutR_s | trivial
theorem rSlice_s {ti : TI} {x : SV} {lo hi : Option SV} {h : HS} : same h (rSlice ti x lo hi h) := by
  unfold rSlice; repeat' split
  all_goals first | rfl | trivial
def dSl (te ti : TI) (x : SV) (lo hi mx : Option SV) (h : HS) : Bool :=
  match x with
  | .row n sz f => dSlice ti (.row n sz f) lo hi
  | x => dSliceV te.size x lo hi mx h
theorem dSl_ok {te ti : TI} {g : Bool} {x : SV} {lo hi mx : Option SV} {h : HS} (hd : dSl te ti x lo hi mx h = true) : cnd (rSl te ti g x lo hi mx h) := by
  unfold rSl
  split
  · unfold rSlR
    split
    · split
      · exact dSlice_ok hd
      · trivial
    · trivial
  · unfold rSlG
    split
    · exact dSliceV_ok hd
    · trivial
  · unfold rSlG
    split
    · exact dSliceV_ok hd
    · trivial
  · trivial
theorem rSl_s {te ti : TI} {g : Bool} {x : SV} {lo hi mx : Option SV} {h : HS} : same h (rSl te ti g x lo hi mx h) := by
  unfold rSl rSlR rSlG; repeat' split
  all_goals first | exact rSlice_s | exact rSliceV_s | trivial
def dSlA (n : Nat) (te : TI) (x : SV) (lo hi mx : Option SV) : Bool :=
  match intO (n : Int) hi with
  | some u => decide (te.size = 1) && decide (0 ≤ u) && decide (u ≤ (n : Int))
  | none => true
theorem dSlA_ok {n : Nat} {te : TI} {x : SV} {lo hi mx : Option SV} {h : HS} (hd : dSlA n te x lo hi mx = true) : cnd (rSlA n te x lo hi mx h) := by
  unfold rSlA
  split
  · split
    · rename_i hi; simpa [cnd, dSlA, hi, and_assoc] using hd
    · trivial
  · trivial
theorem rSlA_s {n : Nat} {te : TI} {x : SV} {lo hi mx : Option SV} {h : HS} : same h (rSlA n te x lo hi mx h) := by
  unfold rSlA; repeat' split
  all_goals first | rfl | trivial
def dClear (te : TI) (x : SV) (h : HS) : Bool :=
  match x with
  | .vec id ver => match getV h.vecs id with
    | .live ver' _ sz _ _ => decide (ver = ver') && decide (te.size = sz)
    | .dead => true
  | .vcut id ver sz lo n _ => match getV h.vecs id with
    | .live ver' _ sz' _ _ => decide (ver = ver') && decide (sz = sz') && decide (te.size = sz)
    | .dead => true
  | _ => true
theorem dClear_ok {te : TI} {x : SV} {h : HS} (hd : dClear te x h = true) : cnd (rClear te x h) := by
  unfold rClear
  split
  · unfold clrW
    split
    · rename_i hv; simpa [cnd, dClear, hv, and_assoc] using hd
    · trivial
  · unfold clrV
    split
    · rename_i hv; simpa [cnd, dClear, hv, and_assoc] using hd
    · trivial
  · trivial
def dCopy (te : TI) (d s : SV) (h : HS) : Bool :=
  dSrc h s && match d, srcOf h s with
  | .bsl nm off n, some (_, m, sz, _) => (match getB h.blks nm with
    | .live _ cells => decide (sz = 1) && decide (off + min m n ≤ lenS cells)
    | _ => true)
  | .vec id ver, some (_, m, sz, _) => (match getV h.vecs id with
    | .live ver' _ sz' _ _ => decide (ver = ver') && decide (sz = sz') && decide (te.size = sz')
    | .dead => true)
  | _, _ => true
theorem dCopy_ok {te : TI} {d s : SV} {h : HS} (hd : dCopy te d s h = true) : cnd (rCopy te d s h) := by
  unfold dCopy at hd
  rw [Bool.and_eq_true] at hd
  obtain ⟨h1, h2⟩ := hd
  have hp : ∀ p q, srcOf h s = some (p, q) → p := fun p q hs => dSrc_ok h1 hs
  unfold rCopy
  split
  · split
    · unfold cpyB
      split
      · rename_i hb hs
        have := hp _ _ hs
        simp only [hb, hs, Bool.and_eq_true, decide_eq_true_eq] at h2
        exact ⟨this, h2⟩
      · trivial
    · trivial
  · unfold cpyV
    split
    · rename_i hv hs
      have := hp _ _ hs
      simp only [hv, hs, Bool.and_eq_true, decide_eq_true_eq] at h2
      exact ⟨this, h2.1.1, h2.1.2, h2.2⟩
    · trivial
  · trivial
def dMake (te : TI) (l c : SV) : Bool :=
  match l, c with
  | .int _ l, .int _ c => decide (l = c) && decide (0 < te.size) && decide (0 ≤ l) && decide ((te.bytes : Int) * l ≤ 281474976710656) && decide (l ≤ 9223372036854775807)
  | _, _ => true
theorem dMake_ok {e : TypeId} {te : TI} {l c : SV} {h : HS} (hd : dMake te l c = true) : cnd (rMake e te l c h) := by
  unfold rMake
  split
  · simpa [cnd, dMake, and_assoc] using hd
  · trivial
def dIdx (n : Nat) (te : TI) (x idx : SV) : Bool :=
  match x, idx with
  | .agg l, .int _ i => decide (0 ≤ i) && decide (i < (n : Int)) && decide (i.toNat < lenS l) && decide (te.size = 1)
  | _, _ => true
theorem dIdx_ok {n : Nat} {te : TI} {x idx : SV} {h : HS} (hd : dIdx n te x idx = true) : cnd (rIdx n te x idx h) := by
  unfold rIdx
  split
  · split
    · trivial
    · simpa [cnd, dIdx, and_assoc] using hd
  · trivial
theorem rIdx_s {n : Nat} {te : TI} {x idx : SV} {h : HS} : same h (rIdx n te x idx h) := by
  unfold rIdx; repeat' split
  all_goals first | rfl | trivial
def dFld (ti : TI) (x : SV) (k : Nat) : Bool :=
  match ti.kind with
  | .struct offs => match nthO offs k with
    | some (o, s) => match x with
      | .agg l => decide (o + s ≤ lenS l)
      | _ => true
    | none => true
  | _ => true
theorem dFld_ok {ti : TI} {x : SV} {k : Nat} {h : HS} (hd : dFld ti x k = true) : cnd (rFld ti x k h) := by
  unfold dFld at hd; unfold rFld
  split
  · rename_i hk
    split
    · rename_i hn
      simp only [hk, hn] at hd
      split
      · simpa [cnd] using hd
      · trivial
    · trivial
  · trivial
theorem rFld_same {ti : TI} {x : SV} {k : Nat} {h : HS} : same h (rFld ti x k h) := by
  unfold rFld; repeat' split
  all_goals first | rfl | trivial
def dNext (h : HS) (x : SV) : Bool :=
  match x with
  | .ptr nm 0 => match getB h.blks nm with
    | .mp m => match m.it with
      | some (mnm, since, _) => match getB h.blks mnm with
        | .mp mm => decide (since = lenM mm.es)
        | _ => true
      | none => true
    | _ => true
  | _ => true
theorem dNext_ok {h : HS} {x : SV} (hd : dNext h x = true) : cnd (rNext x h) := by
  unfold rNext
  split
  rotate_left
  · trivial
  unfold rNextI
  split
  rotate_left
  · trivial
  rename_i hb
  unfold rNextM
  split
  rotate_left
  · trivial
  rename_i hm
  simpa [cnd, dNext, hb, hm] using hd
def dEntry (h : HS) (x : SV) : Bool :=
  match x with
  | .ptr nm 0 => match getB h.blks nm with
    | .mp m => match m.it with
      | some (mnm, since, i :: _) => match getB h.blks mnm with
        | .mp mm => decide (since = lenM mm.es) && decide (i < since)
        | _ => true
      | _ => true
    | _ => true
  | _ => true
theorem dEntry_ok {h : HS} {x : SV} (hd : dEntry h x = true) : cnd (rEntry x h) := by
  unfold rEntry
  split
  rotate_left
  · trivial
  unfold rEntI
  split
  rotate_left
  · trivial
  rename_i hb
  unfold rEntM
  split
  rotate_left
  · trivial
  rename_i hm
  simpa [cnd, dEntry, hb, hm] using hd
theorem rRange_c {ti : TI} {x : SV} {h : HS} : cnd (rRange ti x h) := by
  unfold rRange rRangeM; repeat' split
  all_goals trivial
end Go.Eng
end

/- Conditions of operations, reckoned. -/
section
namespace Go.Eng
open Go.RowKit
set_option linter.unusedVariables false

section
variable (T : Nat → Option TI) (F : Nat → Bool) (t : List SV) (h : HS)
def dMove (ty : TypeId) (x : Operand) : Bool :=
  match isNilSl x with
  | true => match T ty with
    | some ti => match ti.kind with
      | .slice e => match T e with
        | some te => decide (0 < te.size)
        | none => true
      | _ => true
    | none => true
  | false => true
def dStoreN (ti : TI) (x : SV) (b : Bool) (y : SV) : Bool :=
  match b with
  | false => match hasSl ti.zero with
    | true => dStore ti (ownS y h).2 x (ownS y h).1
    | false => dStore ti h x y
  | true => match ti.kind with
    | .slice e => match T e with
      | some te => decide (0 < te.size) && dStore ti { h with vecs := snocV h.vecs (.live 0 e te.size 0 (fun _ _ => .any)) } x (.vec (lenV h.vecs) 0)
      | none => true
    | _ => dStore ti h x y
def elT (ty : TypeId) : Option TI := match T ty with
  | some ti => match ti.kind with
    | .slice e => T e
    | _ => none
  | none => none
def elS (ty : TypeId) : TypeId := match T ty with
  | some ti => match ti.kind with
    | .slice e => e
    | _ => 0
  | none => 0
def dBuiltin (b : Builtin) (tys : List TypeId) (args : List SV) : Bool :=
  match b, tys, args with
  | .len, [ty], [x] => match T ty with
    | some ti => dLen ti h x
    | none => true
  | .append, [ty, ty'], [s, x] => match elT T ty with
    | some te => dAppend (elS T ty) te s x h
    | none => true
  | .clear, [ty], [x] => match elT T ty with
    | some te => dClear te x h
    | none => true
  | .copy, [ty, ty'], [d, s] => match elT T ty with
    | some te => dCopy te d s h
    | none => true
  | _, _, _ => true
def dCallN (n : Option (TypeId × Nat)) : Bool := match n with
  | none => true
  | some (_, sz) => decide (0 < sz)
def dOp (o : Oper) : Bool :=
  match o.op with
  | .move x => dMove T o.type x
  | .assign x => dMove T o.type x
  | .build ty ps => match T ty with
    | some ti => match ti.kind with
      | .array _ e => match T e with
        | some te => dBuild ti te.size (evP t ps.toList)
        | none => true
      | _ => dBuild ti 0 (evP t ps.toList)
    | none => true
  | .buildSlice ty len ps => match elT T ty with
    | some te => dBuildSlice te len (evP t ps.toList)
    | none => true
  | .load ty x => match T ty with
    | some ti => dLoad ti h (ev t x)
    | none => true
  | .store ty x y => match T ty with
    | some ti => dStoreN T h ti (ev t x) (isNilSl y) (ev t y)
    | none => true
  | .binOp op ty x y _ => dBin3 op (isNilSl y) (ev t x) (ev t y)
  | .makeSlice ty l c => match elT T ty with
    | some te => dMake te (ev t l) (ev t c)
    | none => true
  | .slice ty x lo hi mx => match T ty with
    | some ti => match ti.kind with
      | .slice e => match T e with
        | some te => dSl te ti (ev t x) (evO t lo) (evO t hi) (evO t mx) h
        | none => true
      | .array n e => match T e with
        | some te => dSlA n te (ev t x) (evO t lo) (evO t hi) (evO t mx)
        | none => true
      | _ => true
    | none => true
  | .fieldAddr ty x k => match T ty with
    | some ti => dField ti (ev t x) k
    | none => true
  | .indexAddr ty x y => match T ty with
    | some ti => match ti.kind with
      | .slice e => match T e with
        | some te => dIndex ti te.size h (ev t x) (ev t y)
        | none => true
      | .array _ e => match T e with
        | some te => dIndex ti te.size h (ev t x) (ev t y)
        | none => true
      | _ => true
    | none => true
  | .extract x k => dExtract (ev t x) k
  | .next x _ => dNext h (ev t x)
  | .entry x => dEntry h (ev t x)
  | .call c => match c.callee with
    | .value f => dCallN (lastN T c.args.toList c.argTypes.toList)
    | .builtin b => dBuiltin T h b c.argTypes.toList (evL t c.args.toList)
    | _ => true
  | .field ty x k => match T ty with
    | some ti => dFld ti (ev t x) k
    | none => true
  | .index ty x y => match T ty with
    | some ti => match ti.kind with
      | .array n e => match T e with
        | some te => dIdx n te (ev t x) (ev t y)
        | none => true
      | _ => true
    | none => true
  | _ => true
def noF (o : Oper) : Bool :=
  match o.op with
  | .binOp op ty x y _ => isNilSl y && nfNil h (ev t x)
  | _ => false
def pureO (o : Oper) : Bool :=
  match o.op with
  | .move x => !isNilSl x
  | .assign x => !isNilSl x
  | .pick _ _ _ | .build _ _ | .load _ _ | .nilCheck _ | .binOp _ _ _ _ _ | .unOp _ _ _ | .convert _ _ _ | .makeInterface _ _ | .makeFunc _ _ _ | .slice _ _ _ _ _ | .fieldAddr _ _ _ | .indexAddr _ _ _ | .typeAssert _ _ _ _ | .extract _ _ | .field _ _ _ | .index _ _ _ | .lookup _ _ _ _ => true
  | .call c => match c.callee with
    | .builtin .len => true
    | .builtin .max => true
    | .builtin .min => true
    | _ => false
  | _ => false
end

section
variable {T : Nat → Option TI} {F : Nat → Bool} {t : List SV} {h : HS}
theorem rMove_not {ty : TypeId} {x : Operand} (hx : isNilSl x = false) : rMove T t h ty x = .val True (ev t x) h := by
  unfold rMove
  split
  · simp [isNilSl] at hx
  · rfl
theorem dMove_ok {ty : TypeId} {x : Operand} (hd : dMove T ty x = true) : cnd (rMove T t h ty x) := by
  unfold dMove at hd
  split at hd
  · rename_i hx
    rw [isNilSl_eq hx]
    unfold rMove
    split
    · split
      · rename_i ht
        split
        · rename_i he; simpa [cnd, ht, he] using hd
        · trivial
      · trivial
    · trivial
  · rename_i hx; rw [rMove_not hx]; trivial
theorem skipAnd_c {p : Prop} {r : Res} (hp : p) (hr : cnd r) : cnd (skipAnd p r) := by
  unfold skipAnd; split
  · exact ⟨hp, hr⟩
  · trivial
theorem dStoreN_ok {ti : TI} {x y : SV} {b : Bool} (hd : dStoreN T h ti x b y = true) : cnd (rStoreN T h ti x b y) := by
  unfold dStoreN at hd; unfold rStoreN
  cases b with
  | false =>
    simp only at hd ⊢
    unfold rStoreO
    cases hs : hasSl ti.zero with
    | true => rw [hs] at hd; exact dStore_ok hd
    | false => rw [hs] at hd; exact dStore_ok hd
  | true =>
    simp only at hd ⊢
    split
    · rename_i hk
      simp only [hk] at hd
      split
      · rename_i he
        simp only [he, Bool.and_eq_true, decide_eq_true_eq] at hd
        exact skipAnd_c hd.1 (dStore_ok hd.2)
      · trivial
    · rename_i hk
      split at hd
      · rename_i e hk2; exact (hk _ hk2).elim
      · exact dStore_ok hd
theorem elT_some {ty e : TypeId} {ti : TI} (h1 : T ty = some ti) (h2 : ti.kind = .slice e) : elT T ty = T e ∧ elS T ty = e := by
  unfold elT elS; rw [h1]; simp only [h2]; exact ⟨trivial, trivial⟩
theorem dBuiltin_ok {b : Builtin} {tys : List TypeId} {args : List SV} (hd : dBuiltin T h b tys args = true) : cnd (rBuiltin T h b tys args) := by
  unfold rBuiltin
  split
  · simp only [dBuiltin] at hd
    split
    · rename_i ht; simp only [ht] at hd; exact dLen_ok hd
    · trivial
  · simp only [dBuiltin] at hd
    split
    · split
      · rename_i ht
        obtain ⟨e1, e2⟩ := elT_some ht rfl
        rw [e1, e2] at hd
        split
        · rename_i he; simp only [he] at hd; exact dAppend_ok hd
        · trivial
      · trivial
    · trivial
  · simp only [dBuiltin] at hd
    split
    · rename_i ht
      obtain ⟨e1, e2⟩ := elT_some ht rfl
      rw [e1] at hd
      split
      · rename_i he; simp only [he] at hd; exact dClear_ok hd
      · trivial
    · trivial
  · simp only [dBuiltin] at hd
    split
    · rename_i ht
      obtain ⟨e1, e2⟩ := elT_some ht rfl
      rw [e1] at hd
      split
      · rename_i he; simp only [he] at hd; exact dCopy_ok hd
      · trivial
    · trivial
  · unfold rMax; repeat' split
    all_goals trivial
  · unfold rMin; repeat' split
    all_goals trivial
  · trivial
theorem rBuiltin_s {b : Builtin} {tys : List TypeId} {args : List SV} (hb : b = .len ∨ b = .max ∨ b = .min) : same h (rBuiltin T h b tys args) := by
  unfold rBuiltin
  rcases hb with rfl | rfl | rfl
  · repeat' split
    all_goals first | exact rLen_s | trivial | contradiction
  · split <;> first | contradiction | (unfold rMax; repeat' split) | skip
    all_goals first | rfl | trivial
  · split <;> first | contradiction | (unfold rMin; repeat' split) | skip
    all_goals first | rfl | trivial
theorem rCall_c {f : SV} {args : List SV} : cnd (rCall F h f args) := by
  unfold rCall; repeat' split
  all_goals trivial
theorem dCallN_ok {n : Option (TypeId × Nat)} {f : SV} {args : List SV} (hd : dCallN n = true) : cnd (rCallN F h n f args) := by
  unfold rCallN
  split
  · exact rCall_c
  · simp only [dCallN, decide_eq_true_eq] at hd
    split
    · split
      · exact hd
      · trivial
    · trivial
theorem rBoxO_c {o : Option TI} {e : TypeId} {y : SV} : cnd (rBoxO h o e y) := by
  have hb : ∀ (y : SV) (h : HS), cnd (rBox e y h) := fun y h => by unfold rBox; split <;> trivial
  unfold rBoxO; repeat' split
  all_goals exact hb _ _
theorem rLookup_c {tk tv : TI} {ok : Bool} {x y : SV} : cnd (rLookup tk tv ok x y h) ∧ same h (rLookup tk tv ok x y h) := by
  unfold rLookup rLookB gLook; repeat' split
  all_goals first | exact ⟨trivial, rfl⟩ | exact ⟨trivial, trivial⟩
theorem mLk_c {ok : Bool} {x y : SV} {o : Option TI} : cnd (mLk T ok x y h o) ∧ same h (mLk T ok x y h o) := by
  unfold mLk; split
  · unfold mLk2; split
    · exact rLookup_c
    · exact ⟨trivial, trivial⟩
  · exact ⟨trivial, trivial⟩
theorem mUp_c {x y z : SV} {o : Option TI} : cnd (mUp T x y z h o) := by
  unfold mUp; split
  · unfold mUp2; split
    · unfold rUpdate rUpdB; repeat' split
      all_goals trivial
    · trivial
  · trivial
theorem mMk_c {o : Option TI} : cnd (mMk T h o) := by
  unfold mMk; split
  · unfold mMk2; split
    · unfold rMakeMap mkMp; split <;> trivial
    · trivial
  · trivial
theorem rFunc_c {fn : Fn} {a b : List SV} : cnd (rFunc h fn a b) ∧ same h (rFunc h fn a b) := by
  unfold rFunc; repeat' split
  all_goals first | exact ⟨trivial, rfl⟩ | exact ⟨trivial, trivial⟩
theorem rAssert_c {ti : TI} {ty : TypeId} {x : SV} {ok : Bool} : cnd (rAssert ti ty x ok h) ∧ same h (rAssert ti ty x ok h) := by
  unfold rAssert; repeat' split
  all_goals first | exact ⟨trivial, rfl⟩ | exact ⟨trivial, trivial⟩
theorem rUn_c {op : UnOp} {x : SV} : cnd (rUn op x h) ∧ same h (rUn op x h) := by
  unfold rUn; split <;> first | exact ⟨trivial, rfl⟩ | exact ⟨trivial, trivial⟩
theorem rConv_c {ti : TI} {x : SV} : cnd (rConv ti x h) ∧ same h (rConv ti x h) := by
  unfold rConv; split <;> first | exact ⟨trivial, rfl⟩ | exact ⟨trivial, trivial⟩
theorem rIface_c {ti : TI} {ty : TypeId} {x : SV} : cnd (rIface ti ty x h) ∧ same h (rIface ti ty x h) := by
  unfold rIface; split <;> first | exact ⟨trivial, rfl⟩ | exact ⟨trivial, trivial⟩
theorem rNil_c {x : SV} : cnd (rNil h x) ∧ same h (rNil h x) := by
  unfold rNil; split <;> first | exact ⟨trivial, rfl⟩ | exact ⟨trivial, trivial⟩
theorem rPick_c {a b c : SV} : cnd (rPick h a b c) ∧ same h (rPick h a b c) := by
  unfold rPick; split <;> first | exact ⟨trivial, rfl⟩ | exact ⟨trivial, trivial⟩
theorem rExtract_s {x : SV} {i : Nat} : same h (rExtract x i h) := by
  unfold rExtract; split <;> first | rfl | trivial

theorem dOp_ok {o : Oper} (hd : dOp T t h o = true) : cnd (opRes T F t h o) := by
  obtain ⟨dst, op, type, pos, aft, guard⟩ := o
  cases op <;> simp only [opRes] <;> simp only [dOp] at hd
  case move x => exact dMove_ok hd
  case assign x => exact dMove_ok hd
  case pick => exact rPick_c.1
  case nilCheck => exact rNil_c.1
  case alloc =>
    split
    · unfold rAlloc; trivial
    · trivial
  case box => exact rBoxO_c
  case build =>
    split
    · rename_i ht
      simp only [ht] at hd
      split
      · rename_i hk
        simp only [hk] at hd
        split
        · rename_i he; simp only [he] at hd; exact dBuild_ok hd
        · trivial
      · rename_i hk
        split at hd
        · rename_i hk2; exact (hk _ _ hk2).elim
        · exact dBuild_ok hd
    · trivial
  case buildSlice =>
    split
    · rename_i ht
      obtain ⟨e1, e2⟩ := elT_some ht rfl
      rw [e1] at hd
      split
      · rename_i he; simp only [he] at hd; exact dBuildSlice_ok hd
      · trivial
    · trivial
  case load =>
    split
    · rename_i ht; simp only [ht] at hd; exact dLoad_ok hd
    · trivial
  case store =>
    split
    · rename_i ht; simp only [ht] at hd; exact dStoreN_ok hd
    · trivial
  case binOp => exact rBin3_c hd
  case unOp => exact rUn_c.1
  case convert =>
    split
    · exact rConv_c.1
    · trivial
  case makeInterface =>
    split
    · exact rIface_c.1
    · trivial
  case makeFunc => exact rFunc_c.1
  case makeSlice =>
    split
    · rename_i ht
      obtain ⟨e1, e2⟩ := elT_some ht rfl
      rw [e1] at hd
      split
      · rename_i he; simp only [he] at hd; exact dMake_ok hd
      · trivial
    · trivial
  case slice =>
    split
    · rename_i ht
      simp only [ht] at hd
      split
      · rename_i hk
        simp only [hk] at hd
        split
        · rename_i he; simp only [he] at hd; exact dSl_ok hd
        · trivial
      · rename_i hk
        simp only [hk] at hd
        split
        · rename_i he; simp only [he] at hd; exact dSlA_ok hd
        · trivial
      · trivial
    · trivial
  case fieldAddr =>
    split
    · rename_i ht; simp only [ht] at hd; exact dField_ok hd
    · trivial
  case indexAddr =>
    split
    · rename_i ht
      simp only [ht] at hd
      split
      · rename_i hk
        simp only [hk] at hd
        split
        · rename_i he; simp only [he] at hd; exact dIndex_ok hd
        · trivial
      · rename_i hk
        simp only [hk] at hd
        split
        · rename_i he; simp only [he] at hd; exact dIndex_ok hd
        · trivial
      · trivial
    · trivial
  case typeAssert =>
    split
    · exact rAssert_c.1
    · trivial
  case extract => exact dExtract_ok hd
  case call =>
    split
    · rename_i hc; simp only [hc] at hd; exact dCallN_ok hd
    · rename_i hc; simp only [hc] at hd; exact dBuiltin_ok hd
    · trivial
  case panic => unfold rPanic; split <;> trivial
  case makeMap ty n => cases n <;> first | exact mMk_c | trivial
  case lookup => exact mLk_c.1
  case range =>
    split
    · exact rRange_c
    · trivial
  case next x b => cases b <;> first | exact dNext_ok hd | trivial
  case entry => exact dEntry_ok hd
  case mapUpdate => exact mUp_c
  case insert => exact mUp_c
  case field =>
    unfold mFd
    split
    · rename_i ht; simp only [ht] at hd; exact dFld_ok hd
    · trivial
  case index =>
    split
    · rename_i ht
      simp only [ht] at hd
      split
      · rename_i hk
        simp only [hk] at hd
        split
        · rename_i he; simp only [he] at hd; exact dIdx_ok hd
        · trivial
      · trivial
    · trivial
  all_goals trivial
theorem noF_ok {o : Oper} (hd : noF t h o = true) : nfk (opRes T F t h o) := by
  obtain ⟨dst, op, type, pos, aft, guard⟩ := o
  cases op <;> simp only [noF] at hd <;> (try (cases hd; done))
  simp only [opRes]
  rw [Bool.and_eq_true] at hd
  unfold rBin3
  rw [hd.1]
  exact nfNil_ok hd.2
theorem pure_s {o : Oper} (hp : pureO o = true) : same h (opRes T F t h o) := by
  obtain ⟨dst, op, type, pos, aft, guard⟩ := o
  cases op <;> simp only [pureO] at hp <;> (try (cases hp; done)) <;> simp only [opRes]
  case move x => rw [rMove_not (by simpa using hp)]; rfl
  case assign x => rw [rMove_not (by simpa using hp)]; rfl
  case pick => exact rPick_c.2
  case nilCheck => exact rNil_c.2
  case build =>
    repeat' split
    all_goals first | exact rBuild_same | trivial
  case load =>
    split
    · exact rLoad_s
    · trivial
  case binOp => exact rBin3_s
  case unOp => exact rUn_c.2
  case convert =>
    split
    · exact rConv_c.2
    · trivial
  case makeInterface =>
    split
    · exact rIface_c.2
    · trivial
  case makeFunc => exact rFunc_c.2
  case slice =>
    repeat' split
    all_goals first | exact rSl_s | exact rSlA_s | trivial
  case fieldAddr =>
    split
    · exact rField_s
    · trivial
  case indexAddr =>
    repeat' split
    all_goals first | exact rIndex_s | trivial
  case typeAssert =>
    split
    · exact rAssert_c.2
    · trivial
  case extract => exact rExtract_s
  case call c =>
    obtain ⟨callee, args, tys⟩ := c
    simp only at hp
    split at hp
    · exact rBuiltin_s (.inl rfl)
    · exact rBuiltin_s (.inr (.inl rfl))
    · exact rBuiltin_s (.inr (.inr rfl))
    · cases hp
  case lookup => exact mLk_c.2
  case field =>
    unfold mFd
    split
    · exact rFld_same
    · trivial
  case index =>
    repeat' split
    all_goals first | exact rIdx_s | trivial
end
end Go.Eng
end

/- The symbolic machine as a program: a run is reckoned, loops round by round. -/
section
namespace Go.Eng
open Go.RowKit
set_option linter.unusedVariables false

def eqL (f : SV → SV → Bool) : List SV → List SV → Bool
  | [], [] => true
  | x :: l, y :: k => f x y && eqL f l k
  | _, _ => false
def svEq : Nat → SV → SV → Bool
  | 0, _, _ => false
  | n + 1, x, y => match x, y with
    | .any, .any => true
    | .int k a, .int k' b => decide (k = k') && decide (a = b)
    | .bool a, .bool b => a == b
    | .ptr a b, .ptr c d => decide (a = c) && decide (b = d)
    | .nilp, .nilp => true
    | .nils a b, .nils c d => decide (a = c) && decide (b = d)
    | .vec a b, .vec c d => decide (a = c) && decide (b = d)
    | .vptr a b c d e, .vptr a' b' c' d' e' => decide (a = a') && decide (b = b') && decide (c = c') && decide (d = d') && decide (e = e')
    | .vcut a b c d e x, .vcut a' b' c' d' e' x' => decide (a = a') && decide (b = b') && decide (c = c') && decide (d = d') && decide (e = e') && (x == x')
    | .bsl a b c, .bsl a' b' c' => decide (a = a') && decide (b = b') && decide (c = c')
    | .mapp a, .mapp b => decide (a = b)
    | .func g l, .func g' l' => decide (g = g') && eqL (svEq n) l l'
    | .nilf, .nilf => true
    | .nili, .nili => true
    | .iface a v, .iface b u => decide (a = b) && svEq n v u
    | .agg l, .agg l' => eqL (svEq n) l l'
    | .tup l, .tup l' => eqL (svEq n) l l'
    | .yield a, .yield b => decide (a = b)
    | .meth g l, .meth g' l' => decide (g = g') && eqL (svEq n) l l'
    | _, _ => false
theorem eqL_ok {f : SV → SV → Bool} (hf : ∀ x y, f x y = true → x = y) : ∀ {l k : List SV}, eqL f l k = true → l = k
  | [], [], _ => rfl
  | x :: l, y :: k, h => by
    simp only [eqL, Bool.and_eq_true] at h
    rw [hf _ _ h.1, eqL_ok hf h.2]
  | [], _ :: _, h => by simp [eqL] at h
  | _ :: _, [], h => by simp [eqL] at h
theorem svEq_ok : ∀ (n : Nat) (x y : SV), svEq n x y = true → x = y
  | 0, _, _, h => by simp [svEq] at h
  | n + 1, x, y, h => by
    have ih := svEq_ok n
    unfold svEq at h
    split at h <;> first
      | rfl
      | (cases h; done)
      | (try simp only [Bool.and_eq_true, decide_eq_true_eq, beq_iff_eq] at h
         simp only [SV.int.injEq, SV.bool.injEq, SV.ptr.injEq, SV.nils.injEq, SV.vec.injEq, SV.vptr.injEq, SV.vcut.injEq, SV.bsl.injEq, SV.mapp.injEq, SV.func.injEq, SV.iface.injEq, SV.agg.injEq, SV.tup.injEq, SV.yield.injEq, SV.meth.injEq]
         first
          | exact h
          | exact ⟨h.1.1.1.1, h.1.1.1.2, h.1.1.2, h.1.2, h.2⟩
          | exact ⟨h.1.1.1.1.1, h.1.1.1.1.2, h.1.1.1.2, h.1.1.2, h.1.2, h.2⟩
          | exact ⟨h.1.1, h.1.2, h.2⟩
          | exact ⟨h.1, eqL_ok ih h.2⟩
          | exact ⟨h.1, ih _ _ h.2⟩
          | exact eqL_ok ih h)

abbrev RnB : Type 1 := Ctx → Nat → List It → List SV → List Fr → HS → (Out → HS → Bool) → Bool
def Ctx.dfr (C : Ctx) (l : List Nat) : Ctx := { C with D := some l }

def dResL (T : Nat → Option TI) (t : List SV) (h : HS) : List ResultVar → Bool
  | [] => true
  | .tmp _ :: l => dResL T t h l
  | .cell a ty :: l => match T ty with
    | some ti => dLoad ti h (nth t a) && dResL T t h l
    | none => true
theorem dResL_ok {T : Nat → Option TI} {t : List SV} {h : HS} : ∀ {l : List ResultVar} {p : Prop} {vs : List SV}, dResL T t h l = true → resL T t h l = some (p, vs) → p
  | [], p, vs, _, h => by simp only [resL, Option.some.injEq, Prod.mk.injEq] at h; exact h.1 ▸ trivial
  | .tmp i :: l, p, vs, hd, hr => by
    simp only [resL] at hr
    simp only [dResL] at hd
    split at hr
    · rename_i h1; simp only [Option.some.injEq, Prod.mk.injEq] at hr; exact hr.1 ▸ dResL_ok hd h1
    · cases hr
  | .cell a ty :: l, p, vs, hd, hr => by
    simp only [resL] at hr
    simp only [dResL] at hd
    split at hr
    · rename_i ti ht
      simp only [ht, Bool.and_eq_true] at hd
      split at hr
      · rename_i q v h' p' vs' h1 h2
        simp only [Option.some.injEq, Prod.mk.injEq] at hr
        have := dLoad_ok hd.1
        rw [h1] at this
        exact hr.1 ▸ ⟨this, dResL_ok hd.2 h2⟩
      · cases hr
    · cases hr
def dResK (T : Nat → Option TI) (h : HS) : List ResultVar → List SV → Bool
  | [], _ => true
  | .tmp _ :: l, _ :: ts => dResK T h l ts
  | .cell _ ty :: l, x :: ts => match T ty with
    | some ti => dLoad ti h x && dResK T h l ts
    | none => true
  | _ :: _, [] => true
theorem dResK_ok {T : Nat → Option TI} {h : HS} : ∀ {l : List ResultVar} {ts : List SV} {p : Prop} {vs : List SV}, dResK T h l ts = true → resK T h l ts = some (p, vs) → p
  | [], ts, p, vs, _, h => by simp only [resK, Option.some.injEq, Prod.mk.injEq] at h; exact h.1 ▸ trivial
  | .tmp i :: l, x :: ts, p, vs, hd, hr => by
    simp only [resK] at hr
    simp only [dResK] at hd
    split at hr
    · rename_i h1; simp only [Option.some.injEq, Prod.mk.injEq] at hr; exact hr.1 ▸ dResK_ok hd h1
    · cases hr
  | .cell a ty :: l, x :: ts, p, vs, hd, hr => by
    simp only [resK] at hr
    simp only [dResK] at hd
    split at hr
    · rename_i ti ht
      simp only [ht, Bool.and_eq_true] at hd
      split at hr
      · rename_i q v h' p' vs' h1 h2
        simp only [Option.some.injEq, Prod.mk.injEq] at hr
        have := dLoad_ok hd.1
        rw [h1] at this
        exact hr.1 ▸ ⟨this, dResK_ok hd.2 h2⟩
      · cases hr
    · cases hr
  | .tmp i :: l, [], p, vs, hd, hr => by simp [resK] at hr
  | .cell a ty :: l, [], p, vs, hd, hr => by simp [resK] at hr
def noInvB : List It → Bool
  | [] => true
  | .inv _ _ _ _ _ :: _ => false
  | .endR _ :: _ => false
  | .code _ :: k => noInvB k
  | .blk _ :: k => noInvB k
  | .reg _ _ :: k => noInvB k
  | .inRng _ :: k => noInvB k
  | .endRng _ :: k => noInvB k
  | .beginR :: k => noInvB k
  | .aga _ :: k => noInvB k
  | .scp _ :: k => noInvB k
theorem noInvB_ok : ∀ {k : List It}, noInvB k = true → noInv k
  | [], _ => by simp only [noInv]
  | .inv _ _ _ _ _ :: _, h => by simp [noInvB] at h
  | .endR _ :: _, h => by simp [noInvB] at h
  | .code _ :: k, h => by simp only [noInvB] at h; simp only [noInv]; exact noInvB_ok h
  | .blk _ :: k, h => by simp only [noInvB] at h; simp only [noInv]; exact noInvB_ok h
  | .reg _ _ :: k, h => by simp only [noInvB] at h; simp only [noInv]; exact noInvB_ok h
  | .inRng _ :: k, h => by simp only [noInvB] at h; simp only [noInv]; exact noInvB_ok h
  | .endRng _ :: k, h => by simp only [noInvB] at h; simp only [noInv]; exact noInvB_ok h
  | .beginR :: k, h => by simp only [noInvB] at h; simp only [noInv]; exact noInvB_ok h
  | .aga _ :: k, h => by simp only [noInvB] at h; simp only [noInv]; exact noInvB_ok h
  | .scp _ :: k, h => by simp only [noInvB] at h; simp only [noInv]; exact noInvB_ok h

def panB (D : Option (List Nat)) (Q : Out → HS → Bool) (t : List SV) (v : SV) (h : HS) : Bool :=
  match D with
  | none => Q (.pan v) h
  | some l => Q (.fin (some v) (keepN t l)) h
def outB (S : List SV → HS → Bool) (X : List SV → SV → HS → Bool) (t : List SV) (dst : Option Nat) (o : Out) (h : HS) : Bool :=
  match o with
  | .ret v => S (put t dst v) h
  | .pan v => X t v h
  | _ => false
def stopB (D : Option (List Nat)) (Q : Out → HS → Bool) (k : List It) (t : List SV) (h : HS) : Bool :=
  match D with
  | none => false
  | some _ => Q (.stop k t) h
section
variable (C : Ctx) (R : RnB)
def popB (v : SV) (fs : List Fr) (h : HS) (Q : Out → HS → Bool) : Bool :=
  match fs with
  | [] => Q (.ret v) h
  | ⟨fid, .reg ops (i :: idx) :: k, t⟩ :: fs => match getO ops.toList i with
    | some o => R C fid (.reg ops idx :: k) (put t o.dst v) fs h Q
    | none => false
  | ⟨fid, .inRng nm :: k, t⟩ :: fs => R C fid (.endRng nm :: k) t fs h Q
  | _ => false
def popRB (v : SV) (fs : List Fr) (h : HS) (Q : Out → HS → Bool) : Bool :=
  match fs with
  | ⟨fid, .reg ops (i :: idx) :: k, t⟩ :: fs => match getO ops.toList i with
    | some o => R C fid (.reg ops idx :: k) (put t o.dst v) fs h Q
    | none => false
  | [] => match C.D, C.rd with
    | none, true => Q (.rnd v) h
    | _, _ => false
  | _ => false
def endRB (b : Blk) (nm : Nat) (jump : Option Code) (fs : List Fr) (h : HS) (Q : Out → HS → Bool) : Bool :=
  match b with
  | .loop _ _ fid t params assign body => popRB C R (.bool jump.isNone) fs { h with blks := setB h.blks nm (.loop (if jump.isNone then .ready else .done) jump fid t params assign body) } Q
  | _ => false
def beginRB (x : Option Nat) (fid : Nat) (k : List It) (t : List SV) (fs : List Fr) (h : HS) (Q : Out → HS → Bool) : Bool :=
  match x with
  | some nm => match getB h.blks nm with
    | .loop .ready pend fid' t' params assign body => R C fid k t fs { h with blks := setB h.blks nm (.loop .busy pend fid' t' params assign body) } Q
    | _ => false
  | none => false
def endRngB (b : Blk) (nm fid : Nat) (k : List It) (t : List SV) (fs : List Fr) (h : HS) (Q : Out → HS → Bool) : Bool :=
  match b with
  | .loop .ready none _ _ _ _ _ => R C fid k t fs { h with blks := setB h.blks nm .dead } Q
  | .loop .done none _ _ _ _ _ => R C fid k t fs { h with blks := setB h.blks nm .dead } Q
  | .loop .done (some c) _ _ _ _ _ => R C fid (.code c :: k) t fs { h with blks := setB h.blks nm .dead } Q
  | _ => false
def retB (x : Option Nat) (jump : Code) (fs : List Fr) (h : HS) (Q : Out → HS → Bool) (els : Bool) : Bool :=
  match x with
  | none => els
  | some nm => endRB C R (getB h.blks nm) nm (some jump) fs h Q
def leaveB (D : Option (List Nat)) (fid : Nat) (t : List SV) (fs : List Fr) (h : HS) (Q : Out → HS → Bool) (fn : Option Func) : Bool :=
  match D with
  | none => match fn with
    | some fn => match resL C.T t h fn.results.toList with
      | some (p, vs) => dResL C.T t h fn.results.toList && popB C R (oneR vs) fs h Q
      | none => false
    | none => false
  | some l => Q (.fin none (keepN t l)) h
def condB (x : SV) (fid : Nat) (a b : Code) (k : List It) (t : List SV) (fs : List Fr) (h : HS) (Q : Out → HS → Bool) : Bool :=
  match x with
  | .bool true => R C fid (.code a :: k) t fs h Q
  | .bool false => R C fid (.code b :: k) t fs h Q
  | _ => false
def exitB (id : Nat) (k0 : List It) (k : Option (List It)) (fid : Nat) (t : List SV) (fs : List Fr) (h : HS) (Q : Out → HS → Bool) : Bool :=
  match k with
  | some k => R C fid k t fs h Q
  | none => retB C R (rnd k0) (.exit id) fs h Q false
def rngGoB (D : Option (List Nat)) (fn : Option Func) (g : Nat) (args : List SV) (nm fid : Nat) (k : List It) (t : List SV) (fs : List Fr) (h : HS) (Q : Out → HS → Bool) : Bool :=
  match fn with
  | some fn => match fn.body with
    | some c => match D with
      | none => R C g [.code c] (catS args (anys (fn.ntmps - lenS args))) (⟨fid, .inRng nm :: k, t⟩ :: fs) h Q
      | some _ => R C.off g [.code c] (catS args (anys (fn.ntmps - lenS args))) [] h (outB (fun t' h' => R C fid (.endRng nm :: k) t' fs h' Q) (panB C.D Q) t none)
    | none => false
  | none => false
def rngB (f : SV) (params : Array Nat) (assign body : Code) (fid : Nat) (k : List It) (t : List SV) (fs : List Fr) (h : HS) (Q : Out → HS → Bool) : Bool :=
  match f with
  | .func g caps => C.F g && ((rnd k).isNone && rngGoB C R C.D (C.FN g) g (.yield (lenB h.blks) :: caps) (lenB h.blks) fid k t fs { h with blks := snocB h.blks (.loop .ready none fid t params assign body) } Q)
  | _ => false
def roundB (D : Option (List Nat)) (ok : Bool) (nm rf : Nat) (rt : List SV) (assign body : Code) (fid : Nat) (ops : Array Oper) (i : Nat) (idx : List Nat) (k : List It) (t : List SV) (fs : List Fr) (h : HS) (Q : Out → HS → Bool) : Bool :=
  match C.rs, D with
  | false, none => ok && R C rf [.code assign, .beginR, .code body, .endR nm] rt (⟨fid, .reg ops (i :: idx) :: k, t⟩ :: fs) h Q
  | _, _ => false
def inlB (D : Option (List Nat)) (fn : Option Func) (g : Nat) (args : List SV) (fid : Nat) (ops : Array Oper) (i : Nat) (idx : List Nat) (dst : Option Nat) (k : List It) (t : List SV) (fs : List Fr) (h : HS) (Q : Out → HS → Bool) : Bool :=
  match fn with
  | some fn => match fn.body with
    | some c => match D with
      | none => R C g [.code c] (catS args (anys (fn.ntmps - lenS args))) (⟨fid, .reg ops (i :: idx) :: k, t⟩ :: fs) h Q
      | some _ => R C.off g [.code c] (catS args (anys (fn.ntmps - lenS args))) [] h (outB (fun t' h' => R C fid (.reg ops idx :: k) t' fs h' Q) (panB C.D Q) t dst)
    | none => false
  | none => false

/- A function that defers one call. -/
def resultB (fn : Func) (K : Out → HS → Bool) (ts : List SV) (p : Option SV) (h : HS) : Bool :=
  match p with
  | none => match resK C.T h fn.results.toList ts with
    | some (q, vs) => dResK C.T h fn.results.toList ts && K (.ret (oneR vs)) h
    | none => false
  | some v => K (.pan v) h
def rcvEndB (K : Option SV → HS → Bool) (o : Out) (h : HS) : Bool :=
  match o with
  | .fin none _ => K none h
  | _ => false
def rcvOpB (p : Option SV) (K : Option SV → HS → Bool) (g : Nat) (o : Option Oper) (ops : Array Oper) (idx : List Nat) (k : List It) (t : List SV) (h : HS) : Bool :=
  match o with
  | some ⟨dst, .call ⟨.builtin .recover, ⟨[]⟩, _⟩, _, _, _, none⟩ => noInvB k && R (C.dfr []) g (.reg ops idx :: k) (put t dst (gotS p)) [] h (rcvEndB K)
  | _ => false
def rcvB (p : Option SV) (K : Option SV → HS → Bool) (g : Nat) (o : Out) (h : HS) : Bool :=
  match o with
  | .stop (.reg ops (i :: idx) :: k) t => rcvOpB C R p K g (getO ops.toList i) ops idx k t h
  | _ => false
def defB (g : Nat) (args : List SV) (p : Option SV) (h : HS) (K : Option SV → HS → Bool) : Bool :=
  match C.FN g with
  | some fn => match fn.body with
    | some c => fn.results.toList.isEmpty && R (C.dfr []) g [.code c] (catS args (anys (fn.ntmps - lenS args))) [] h (rcvB C R p K g)
    | none => false
  | none => false
def endB (fn : Func) (K : Out → HS → Bool) (g' : Nat) (caps : List SV) (o : Out) (h : HS) : Bool :=
  match o with
  | .fin p ts => defB C R g' caps p h (resultB C fn K ts)
  | _ => false
def dfrGoB (fn : Func) (K : Out → HS → Bool) (g : Nat) (f : SV) (ops : Array Oper) (idx : List Nat) (dst : Option Nat) (k : List It) (t : List SV) (h : HS) : Bool :=
  match f with
  | .func g' caps => C.F g' && (noInvB k && R (C.dfr (slots fn.results.toList)) g (.reg ops idx :: k) (put t dst .any) [] h (endB C R fn K g' caps))
  | _ => false
def dfrOpB (fn : Func) (K : Out → HS → Bool) (g : Nat) (o : Option Oper) (ops : Array Oper) (idx : List Nat) (k : List It) (t : List SV) (h : HS) : Bool :=
  match o with
  | some ⟨dst, .defer ⟨.value f, ⟨[]⟩, _⟩, _, _, _, none⟩ => dfrGoB C R fn K g (ev t f) ops idx dst k t h
  | _ => false
def dfrQB (fn : Func) (K : Out → HS → Bool) (g : Nat) (o : Out) (h : HS) : Bool :=
  match o with
  | .stop (.reg ops (i :: idx) :: k) t => dfrOpB C R fn K g (getO ops.toList i) ops idx k t h
  | .fin p ts => resultB C fn K ts p h
  | _ => false
def dfrB (g : Nat) (args : List SV) (h : HS) (K : Out → HS → Bool) : Bool :=
  match C.FN g with
  | some fn => match fn.body with
    | some c => R (C.dfr (slots fn.results.toList)) g [.code c] (catS args (anys (fn.ntmps - lenS args))) [] h (dfrQB C R fn K g)
    | none => false
  | none => false

def goB (il : Bool) (g : Nat) (args : List SV) (fid : Nat) (ops : Array Oper) (i : Nat) (idx : List Nat) (dst : Option Nat) (k : List It) (t : List SV) (fs : List Fr) (h : HS) (Q : Out → HS → Bool) : Bool :=
  match il with
  | true => inlB C R C.D (C.FN g) g args fid ops i idx dst k t fs h Q
  | false => dfrB C R g args h (outB (fun t' h' => R C fid (.reg ops idx :: k) t' fs h' Q) (panB C.D Q) t dst)
def allN (f : Nat → Bool) : Nat → Bool
  | 0 => true
  | n + 1 => f n && allN f n
def anyN (f : Nat → Bool) : Nat → Bool
  | 0 => false
  | n + 1 => f n || anyN f n
theorem allN_ok {f : Nat → Bool} : ∀ {n : Nat}, allN f n = true → ∀ i, i < n → f i = true
  | 0, _, i, hi => by omega
  | n + 1, h, i, hi => by
    simp only [allN, Bool.and_eq_true] at h
    by_cases e : i = n
    · subst e; exact h.1
    · exact allN_ok h.2 i (by omega)
theorem anyN_ok {f : Nat → Bool} : ∀ {n : Nat}, anyN f n = true → ∃ i, i < n ∧ f i = true
  | 0, h => by cases h
  | n + 1, h => by
    simp only [anyN, Bool.or_eq_true] at h
    rcases h with h | h
    · exact ⟨n, by omega, h⟩
    · obtain ⟨i, h1, h2⟩ := anyN_ok h; exact ⟨i, by omega, h2⟩
def execB (nf d : Bool) (r : Res) (fid : Nat) (ops : Array Oper) (i : Nat) (idx : List Nat) (dst : Option Nat) (k : List It) (t : List SV) (fs : List Fr) (h : HS) (Q : Out → HS → Bool) : Bool :=
  match r with
  | .val p v h' => d && R C fid (.reg ops idx :: k) (put t dst v) fs h' Q
  | .skip p h' => d && R C fid (.reg ops idx :: k) (put t dst .any) fs h' Q
  | .fork p v u h' => (nf || R C fid (.reg ops idx :: k) (put t dst v) fs h' Q) && R C fid (.reg ops idx :: k) (put t dst u) fs h' Q
  | .pan v => panB C.D Q t v h
  | .call g args => goB C R (C.inl g) g args fid ops i idx dst k t fs h Q
  | .callN p g args h' => d && goB C R (C.inl g) g args fid ops i idx dst k t fs h' Q
  | .pick c n p v g u h' => d && (allN (fun i => !p i || R C fid (.reg ops idx :: k) (put t dst (v i)) fs (g i) Q) n && (anyN p n || R C fid (.reg ops idx :: k) (put t dst u) fs h' Q))
  | .round nm rf rt assign body => roundB C R C.D (C.FN rf).isSome nm rf rt assign body fid ops i idx k t fs h Q
  | .bad => stopB C.D Q (.reg ops (i :: idx) :: k) t h
def wantB (b want : Bool) (o : Oper) (fid : Nat) (ops : Array Oper) (i : Nat) (idx : List Nat) (k : List It) (t : List SV) (fs : List Fr) (h : HS) (Q : Out → HS → Bool) : Bool :=
  match b, want with
  | true, true => execB C R (noF t h o) (dOp C.T t h o) (opRes C.T C.F t h o) fid ops i idx o.dst k t fs h Q
  | false, false => execB C R (noF t h o) (dOp C.T t h o) (opRes C.T C.F t h o) fid ops i idx o.dst k t fs h Q
  | _, _ => R C fid (.reg ops idx :: k) (put t o.dst (.tup [])) fs h Q
def guardB (x : SV) (d : Nat) (want : Bool) (o : Oper) (fid : Nat) (ops : Array Oper) (i : Nat) (idx : List Nat) (k : List It) (t : List SV) (fs : List Fr) (h : HS) (Q : Out → HS → Bool) : Bool :=
  match x with
  | .bool true => wantB C R true want o fid ops i idx k (upd t d (.bool true)) fs h Q
  | .bool false => wantB C R false want o fid ops i idx k (upd t d (.bool false)) fs h Q
  | .tup [] => R C fid (.reg ops idx :: k) (put t o.dst (.tup [])) fs h Q
  | _ => false
def guard1B (oj : Option Oper) (want : Bool) (o : Oper) (fid : Nat) (ops : Array Oper) (i : Nat) (idx : List Nat) (k : List It) (t : List SV) (fs : List Fr) (h : HS) (Q : Out → HS → Bool) : Bool :=
  match oj with
  | some { dst := some d, .. } => guardB C R (nth t d) d want o fid ops i idx k t fs h Q
  | _ => false
def opB (o : Option Oper) (fid : Nat) (ops : Array Oper) (i : Nat) (idx : List Nat) (k : List It) (t : List SV) (fs : List Fr) (h : HS) (Q : Out → HS → Bool) : Bool :=
  match o with
  | some ⟨dst, op, ty, pos, aft, none⟩ => execB C R (noF t h ⟨dst, op, ty, pos, aft, none⟩) (dOp C.T t h ⟨dst, op, ty, pos, aft, none⟩) (opRes C.T C.F t h ⟨dst, op, ty, pos, aft, none⟩) fid ops i idx dst k t fs h Q
  | some ⟨dst, op, ty, pos, aft, some (j, want)⟩ => guard1B C R (getO ops.toList j) want ⟨dst, op, ty, pos, aft, some (j, want)⟩ fid ops i idx k t fs h Q
  | none => false

/- ### regions whose order is drawn -/
def reS1B (pu d : Bool) (r : Res) (dst : Option Nat) (t : List SV) : Bool :=
  match r with
  | .val _ v _ => pu && (d && match dst with
    | some s => svEq 8 v (nth t s)
    | none => true)
  | _ => false
def reWB (b want : Bool) (pu d : Bool) (r : Res) (dst : Option Nat) (t : List SV) : Bool :=
  match b, want with
  | true, true => reS1B pu d r dst t
  | false, false => reS1B pu d r dst t
  | _, _ => true
def reGB (x : SV) (want : Bool) (pu d : Bool) (r : Res) (dst : Option Nat) (t : List SV) : Bool :=
  match x with
  | .bool b => reWB b want pu d r dst t
  | .tup [] => true
  | _ => false
def reOB (ops : Array Oper) (t : List SV) (h : HS) (o : Option Oper) : Bool :=
  match o with
  | some ⟨dst, op, ty, pos, aft, none⟩ => reS1B (pureO ⟨dst, op, ty, pos, aft, none⟩) (dOp C.T t h ⟨dst, op, ty, pos, aft, none⟩) (opRes C.T C.F t h ⟨dst, op, ty, pos, aft, none⟩) dst t
  | some ⟨dst, op, ty, pos, aft, some (j, want)⟩ => match getO ops.toList j with
    | some { dst := some d, .. } => reGB (nth t d) want (pureO ⟨dst, op, ty, pos, aft, some (j, want)⟩) (dOp C.T t h ⟨dst, op, ty, pos, aft, some (j, want)⟩) (opRes C.T C.F t h ⟨dst, op, ty, pos, aft, some (j, want)⟩) dst t
    | _ => false
  | none => false
def reAB (ops : Array Oper) (t : List SV) (h : HS) : List Nat → Bool
  | [] => true
  | k :: l => reOB C ops t h (getO ops.toList k) && reAB ops t h l
variable (X : List SV → SV → HS → Bool) (Q : Out → HS → Bool)
def qGoB (pu d : Bool) (r : Res) (dst : Option Nat) (S : List SV → HS → Bool) (t : List SV) (h : HS) : Bool :=
  match r with
  | .val _ v _ => pu && (d && S (put t dst v) h)
  | _ => false
def lCallB (il : Bool) (g : Nat) (args : List SV) (dst : Option Nat) (S : List SV → HS → Bool) (t : List SV) (h : HS) : Bool :=
  match il with
  | true => match C.FN g with
    | some fn => match fn.body with
      | some c => R C.off g [.code c] (catS args (anys (fn.ntmps - lenS args))) [] h (outB S X t dst)
      | none => false
    | none => false
  | false => dfrB C R g args h (outB S X t dst)
def rndB (S : List SV → HS → Bool) (t : List SV) (dst : Option Nat) (o : Out) (h : HS) : Bool :=
  match o with
  | .rnd v => S (put t dst v) h
  | _ => false
def lGoB (d : Bool) (r : Res) (dst : Option Nat) (S : List SV → HS → Bool) (t : List SV) (h : HS) : Bool :=
  match r with
  | .val p v h' => d && S (put t dst v) h'
  | .skip p h' => d && S (put t dst .any) h'
  | .call g args => lCallB C R X (C.inl g) g args dst S t h
  | .callN p g args h' => d && lCallB C R X (C.inl g) g args dst S t h'
  | .round nm rf rt assign body => (C.FN rf).isSome && R C.rnd rf [.code assign, .beginR, .code body, .endR nm] rt [] h (rndB S t dst)
  | _ => false
def goPB (quiet : Bool) (o : Oper) (S : List SV → HS → Bool) (t : List SV) (h : HS) : Bool :=
  match quiet with
  | true => qGoB (pureO o) (dOp C.T t h o) (opRes C.T C.F t h o) o.dst S t h
  | false => lGoB C R X (dOp C.T t h o) (opRes C.T C.F t h o) o.dst S t h
def gateWB (b want : Bool) (quiet : Bool) (o : Oper) (S : List SV → HS → Bool) (t : List SV) (h : HS) : Bool :=
  match b, want with
  | true, true => goPB C R X quiet o S t h
  | false, false => goPB C R X quiet o S t h
  | _, _ => S (put t o.dst (.tup [])) h
def gateGB (x : SV) (d : Nat) (want : Bool) (quiet : Bool) (o : Oper) (S : List SV → HS → Bool) (t : List SV) (h : HS) : Bool :=
  match x with
  | .bool true => gateWB C R X true want quiet o S (upd t d (.bool true)) h
  | .bool false => gateWB C R X false want quiet o S (upd t d (.bool false)) h
  | .tup [] => S (put t o.dst (.tup [])) h
  | _ => false
def gateB (ops : Array Oper) (quiet : Bool) (o : Option Oper) (S : List SV → HS → Bool) (t : List SV) (h : HS) : Bool :=
  match o with
  | some ⟨dst, op, ty, pos, aft, none⟩ => goPB C R X quiet ⟨dst, op, ty, pos, aft, none⟩ S t h
  | some ⟨dst, op, ty, pos, aft, some (j, want)⟩ => match getO ops.toList j with
    | some { dst := some d, .. } => gateGB C R X (nth t d) d want quiet ⟨dst, op, ty, pos, aft, some (j, want)⟩ S t h
    | _ => false
  | none => false
def thenB (ops : Array Oper) (re : List Nat) (S : List SV → HS → Bool) (t : List SV) (h : HS) : Bool := reAB C ops t h re && S t h
def planB (fid : Nat) (ops : Array Oper) (k : List It) (fs : List Fr) : Plan → List SV → HS → Bool
  | .done, t, h => R C fid k t fs h Q
  | .quiet i p, t, h => gateB C R X ops true (getO ops.toList i) (planB fid ops k fs p) t h
  | .loud i re p, t, h => gateB C R X ops false (getO ops.toList i) (thenB C ops re (planB fid ops k fs p)) t h
  | .both p q, t, h => planB fid ops k fs p t h && planB fid ops k fs q t h
def drawB (p : Option Plan) (fid : Nat) (ops : Array Oper) (k : List It) (t : List SV) (fs : List Fr) (h : HS) : Bool :=
  match p with
  | some p => planOk ops p && (keepOk ops C.D && planB C R (panB C.D Q) Q fid ops k fs p t h)
  | none => false
end

def codeB (R : RnB) (C : Ctx) (fid : Nat) (c : Code) (k : List It) (t : List SV) (fs : List Fr) (h : HS) (Q : Out → HS → Bool) : Bool :=
  match c with
  | .skip => R C fid k t fs h Q
  | .label _ => R C fid k t fs h Q
  | .seq a b => R C fid (.code a :: .code b :: k) t fs h Q
  | .cond c a b => condB C R (ev t c) fid a b k t fs h Q
  | .block id c => R C fid (.code c :: .blk id :: k) t fs h Q
  | .loop body => R C fid (.code body :: .aga body :: k) t fs h Q
  | .scope body => R C fid (.code body :: .scp body :: k) t fs h Q
  | .exit id => exitB C R id k (exitI id k) fid t fs h Q
  | .rangeFunc f params assign body => rngB C R (ev t f) params assign body fid k t fs h Q
  | .ret => retB C R (rnd k) .ret fs h Q (leaveB C R C.D fid t fs h Q (C.FN fid))
  | .region _ ops false => R C fid (.reg ops (upto ops.toList 0) :: k) t fs h Q
  | .region id ops true => drawB C R Q (C.plan fid id) fid ops k t fs h
  | _ => false
def stepB (R : RnB) : RnB := fun C fid k t fs h Q =>
  match k with
  | [] => leaveB C R C.D fid t fs h Q (C.FN fid)
  | .code c :: k => codeB R C fid c k t fs h Q
  | .blk _ :: k => R C fid k t fs h Q
  | .aga body :: k => R C fid (.code body :: .aga body :: k) t fs h Q
  | .scp _ :: k => R C fid k t fs h Q
  | .reg ops [] :: k => R C fid k t fs h Q
  | .reg ops (i :: idx) :: k => opB C R (getO ops.toList i) fid ops i idx k t fs h Q
  | .endRng nm :: k => endRngB C R (getB h.blks nm) nm fid k t fs h Q
  | .beginR :: k => beginRB C R (rnd k) fid k t fs h Q
  | .endR nm :: _ => endRB C R (getB h.blks nm) nm none fs h Q
  | _ => false
def runB : Nat → RnB := Nat.rec (fun _ _ _ _ _ _ _ => false) (fun _ R => stepB R)
theorem runB_succ (n : Nat) : runB (n + 1) = stepB (runB n) := rfl
end Go.Eng
end

/- What is reckoned is true of the symbolic machine. -/
section
namespace Go.Eng
open Go.RowKit
set_option linter.unusedVariables false

structure CtxE (C : Ctx) : Prop where
  ok : CtxOk C
  G : ∀ g, C.G g = none
theorem CtxE.off {C : Ctx} (h : CtxE C) : CtxE C.off := ⟨⟨h.ok.T, h.ok.F, h.ok.FN, h.ok.G, h.ok.mix⟩, h.G⟩
theorem CtxE.rnd {C : Ctx} (h : CtxE C) : CtxE C.rnd := ⟨⟨h.ok.T, h.ok.F, h.ok.FN, h.ok.G, h.ok.mix⟩, h.G⟩
theorem CtxE.dfr {C : Ctx} (h : CtxE C) (l : List Nat) : CtxE (C.dfr l) := ⟨⟨h.ok.T, h.ok.F, h.ok.FN, h.ok.G, h.ok.mix⟩, h.G⟩
def Snd (n : Nat) (R : RnB) : Prop := ∀ C, CtxE C → ∀ fid k t fs h (Q : Out → HS → Bool) (Q' : Out → HS → Prop), (∀ o h, Q o h = true → Q' o h) → R C fid k t fs h Q = true → run C n fid k t fs h Q'

section
variable {n : Nat} {C : Ctx} {R : RnB} {Q : Out → HS → Bool} {Q' : Out → HS → Prop}
theorem panB_ok {D : Option (List Nat)} {t : List SV} {v : SV} {h : HS} (hQ : ∀ o h, Q o h = true → Q' o h) (hb : panB D Q t v h = true) : panQ D Q' t v h := by
  unfold panB at hb; unfold panQ
  cases D with
  | none => exact hQ _ _ hb
  | some l => exact hQ _ _ hb
theorem stopB_ok {D : Option (List Nat)} {k : List It} {t : List SV} {h : HS} (hQ : ∀ o h, Q o h = true → Q' o h) (hb : stopB D Q k t h = true) : stopQ D Q' k t h := by
  unfold stopB at hb; unfold stopQ
  cases D with
  | none => cases hb
  | some l => exact hQ _ _ hb
theorem outB_ok {S : List SV → HS → Bool} {S' : List SV → HS → Prop} {X : List SV → SV → HS → Bool} {X' : List SV → SV → HS → Prop} {t : List SV} {dst : Option Nat} (hS : ∀ t h, S t h = true → S' t h) (hX : ∀ t v h, X t v h = true → X' t v h) (o : Out) (h : HS)
    (hb : outB S X t dst o h = true) : outK S' X' t dst o h := by
  unfold outB at hb; unfold outK
  cases o with
  | ret v => exact hS _ _ hb
  | pan v => exact hX _ _ _ hb
  | fin _ _ => cases hb
  | stop _ _ => cases hb
  | rnd _ => cases hb
variable (hR : Snd n R) (hC : CtxE C) (hQ : ∀ o h, Q o h = true → Q' o h)
include hR hC hQ
theorem popB_ok {v : SV} {fs : List Fr} {h : HS} (hb : popB C R v fs h Q = true) : popS (run C n) v fs h Q' := by
  unfold popB at hb; unfold popS
  split at hb
  · exact hQ _ _ hb
  · split at hb
    · rename_i ho; simp only [ho]; exact hR C hC _ _ _ _ _ _ _ hQ hb
    · cases hb
  · exact hR C hC _ _ _ _ _ _ _ hQ hb
  · cases hb
theorem popRB_ok {v : SV} {fs : List Fr} {h : HS} (hb : popRB C R v fs h Q = true) : popR C (run C n) v fs h Q' := by
  unfold popRB at hb; unfold popR
  split at hb
  · split at hb
    · rename_i ho; simp only [ho]; exact hR C hC _ _ _ _ _ _ _ hQ hb
    · cases hb
  · split at hb
    · rename_i h1 h2; simp only [h1, h2]; exact hQ _ _ hb
    · cases hb
  · cases hb
theorem endRB_ok {b : Blk} {nm : Nat} {jump : Option Code} {fs : List Fr} {h : HS} (hb : endRB C R b nm jump fs h Q = true) : endRS C (run C n) b nm jump fs h Q' := by
  unfold endRB at hb; unfold endRS
  split at hb
  · exact popRB_ok hR hC hQ hb
  · cases hb
theorem beginRB_ok {x : Option Nat} {fid : Nat} {k : List It} {t : List SV} {fs : List Fr} {h : HS} (hb : beginRB C R x fid k t fs h Q = true) : beginRS (run C n) x fid k t fs h Q' := by
  unfold beginRB at hb; unfold beginRS
  split at hb
  · split at hb
    · rename_i hbl; simp only [hbl]; exact hR C hC _ _ _ _ _ _ _ hQ hb
    · cases hb
  · cases hb
theorem endRngB_ok {b : Blk} {nm fid : Nat} {k : List It} {t : List SV} {fs : List Fr} {h : HS} (hb : endRngB C R b nm fid k t fs h Q = true) : endRngS (run C n) b nm fid k t fs h Q' := by
  unfold endRngB at hb; unfold endRngS
  split at hb
  · exact hR C hC _ _ _ _ _ _ _ hQ hb
  · exact hR C hC _ _ _ _ _ _ _ hQ hb
  · exact hR C hC _ _ _ _ _ _ _ hQ hb
  · cases hb
theorem retB_ok {x : Option Nat} {jump : Code} {fs : List Fr} {h : HS} {els : Bool} {els' : Prop} (he : els = true → els') (hb : retB C R x jump fs h Q els = true) : retS C (run C n) x jump fs h Q' els' := by
  unfold retB at hb; unfold retS
  split at hb
  · exact he hb
  · exact endRB_ok hR hC hQ hb
theorem leaveB_ok {D : Option (List Nat)} {fid : Nat} {t : List SV} {fs : List Fr} {h : HS} {fn : Option Func} (hb : leaveB C R D fid t fs h Q fn = true) : leaveS C (run C n) D fid t fs h Q' fn := by
  unfold leaveB at hb; unfold leaveS
  split at hb
  · split at hb
    · split at hb
      · rename_i hres
        rw [Bool.and_eq_true] at hb
        (try simp only [hres])
        exact ⟨dResL_ok hb.1 hres, popB_ok hR hC hQ hb.2⟩
      · cases hb
    · cases hb
  · exact hQ _ _ hb
theorem condB_ok {x : SV} {fid : Nat} {a b : Code} {k : List It} {t : List SV} {fs : List Fr} {h : HS} (hb : condB C R x fid a b k t fs h Q = true) : condS (run C n) x fid a b k t fs h Q' := by
  unfold condB at hb; unfold condS
  split at hb
  · exact ⟨fun _ => hR C hC _ _ _ _ _ _ _ hQ hb, fun e => by cases e⟩
  · exact ⟨(fun e => by cases e), fun _ => hR C hC _ _ _ _ _ _ _ hQ hb⟩
  · cases hb
theorem exitB_ok {id : Nat} {k0 : List It} {k : Option (List It)} {fid : Nat} {t : List SV} {fs : List Fr} {h : HS} (hb : exitB C R id k0 k fid t fs h Q = true) : exitS C (run C n) id k0 k fid t fs h Q' := by
  unfold exitB at hb; unfold exitS
  split at hb
  · exact hR C hC _ _ _ _ _ _ _ hQ hb
  · exact retB_ok hR hC hQ (fun e => by cases e) hb
theorem rngGoB_ok {D : Option (List Nat)} {fn : Option Func} {g : Nat} {args : List SV} {nm fid : Nat} {k : List It} {t : List SV} {fs : List Fr} {h : HS} (hb : rngGoB C R D fn g args nm fid k t fs h Q = true) : rngGo C (run C n) (run C.off n) D fn g args nm fid k t fs h Q' := by
  unfold rngGoB at hb; unfold rngGo
  cases fn with
  | none => cases hb
  | some fn =>
    simp only at hb ⊢
    cases hbd : fn.body with
    | none => rw [hbd] at hb; cases hb
    | some c =>
      rw [hbd] at hb
      cases D with
      | none => exact hR C hC _ _ _ _ _ _ _ hQ hb
      | some l => exact hR C.off hC.off _ _ _ _ _ _ _ (fun o h hh => outB_ok (fun t h hh => hR C hC _ _ _ _ _ _ _ hQ hh) (fun t v h hh => panB_ok hQ hh) o h hh) hb
theorem rngB_ok {f : SV} {params : Array Nat} {assign body : Code} {fid : Nat} {k : List It} {t : List SV} {fs : List Fr} {h : HS} (hb : rngB C R f params assign body fid k t fs h Q = true) : rngS C (run C n) (run C.off n) f params assign body fid k t fs h Q' := by
  unfold rngB at hb; unfold rngS
  split at hb
  · rw [Bool.and_eq_true, Bool.and_eq_true] at hb
    exact ⟨hb.1, by simpa using hb.2.1, rngGoB_ok hR hC hQ hb.2.2⟩
  · cases hb
theorem roundB_ok {D : Option (List Nat)} {ok : Bool} {nm rf : Nat} {rt : List SV} {assign body : Code} {fid : Nat} {ops : Array Oper} {i : Nat} {idx : List Nat} {dst : Option Nat} {k : List It} {t : List SV} {fs : List Fr} {h : HS} (hb : roundB C R D ok nm rf rt assign body fid ops i idx k t fs h Q = true) :
    roundS C (run C n) C.rs D ok nm rf rt assign body fid ops i idx dst k t fs h Q' := by
  unfold roundB at hb; unfold roundS
  split at hb
  · rename_i hrs; rw [Bool.and_eq_true] at hb; rw [hrs]; exact ⟨hb.1, hR C hC _ _ _ _ _ _ _ hQ hb.2⟩
  · cases hb
theorem inlB_ok {D : Option (List Nat)} {fn : Option Func} {g : Nat} {args : List SV} {fid : Nat} {ops : Array Oper} {i : Nat} {idx : List Nat} {dst : Option Nat} {k : List It} {t : List SV} {fs : List Fr} {h : HS} (hb : inlB C R D fn g args fid ops i idx dst k t fs h Q = true) :
    inlS C (run C n) (run C.off n) D fn g args fid ops i idx dst k t fs h Q' := by
  unfold inlB at hb; unfold inlS
  cases fn with
  | none => cases hb
  | some fn =>
    simp only at hb ⊢
    cases hbd : fn.body with
    | none => rw [hbd] at hb; cases hb
    | some c =>
      rw [hbd] at hb
      cases D with
      | none => exact hR C hC _ _ _ _ _ _ _ hQ hb
      | some l => exact hR C.off hC.off _ _ _ _ _ _ _ (fun o h hh => outB_ok (fun t h hh => hR C hC _ _ _ _ _ _ _ hQ hh) (fun t v h hh => panB_ok hQ hh) o h hh) hb
omit hR hC hQ in
theorem resultB_ok {K : Out → HS → Bool} {K' : Out → HS → Prop} (hK : ∀ o h, K o h = true → K' o h) {l : List Nat} {fn : Func} {ts : List SV} {p : Option SV} {h : HS} (hb : resultB C fn K ts p h = true) : resultQ (C.dfr l) fn K' ts p h := by
  unfold resultB at hb; unfold resultQ
  split at hb
  · split at hb
    · rename_i hr
      rw [Bool.and_eq_true] at hb
      have hr' : resK (C.dfr l).T h fn.results.toList ts = _ := hr
      simp only [hr']
      exact ⟨dResK_ok hb.1 hr, hK _ _ hb.2⟩
    · cases hb
  · exact hK _ _ hb
omit hQ in
theorem defB_ok {K : Option SV → HS → Bool} {K' : Option SV → HS → Prop} (hK : ∀ p h, K p h = true → K' p h) {g : Nat} {args : List SV} {p : Option SV} {h : HS} (hb : defB C R g args p h K = true) : DefS C.P g args p h K' := by
  unfold defB at hb
  split at hb
  · rename_i fn hfn
    split at hb
    · rename_i c hc
      rw [Bool.and_eq_true] at hb
      have hres : fn.results = #[] := by
        have := hb.1
        rw [List.isEmpty_iff] at this
        exact Array.toList_eq_nil_iff.1 this
      refine defS_of_run (C := C.dfr []) (hC.dfr []).ok (g := g) hfn hc hres rfl n n (hR (C.dfr []) (hC.dfr []) _ _ _ _ _ _ _ (fun o h hh => ?_) hb.2)
      unfold rcvB at hh; unfold rcvQ
      split at hh
      · unfold rcvOpB at hh; unfold rcvOp
        split at hh
        · rename_i ho
          rw [Bool.and_eq_true] at hh
          (try simp only [ho])
          refine ⟨noInvB_ok hh.1, hR (C.dfr []) (hC.dfr []) _ _ _ _ _ _ _ (fun o h hh => ?_) hh.2⟩
          unfold rcvEndB at hh; unfold rcvEnd
          split at hh
          · exact hK _ _ hh
          · cases hh
        · cases hh
      · cases hh
    · cases hb
  · cases hb
omit hQ in
theorem dfrB_ok {K : Out → HS → Bool} {K' : Out → HS → Prop} (hK : ∀ o h, K o h = true → K' o h) {g : Nat} {args : List SV} {h : HS} (hb : dfrB C R g args h K = true) : CallsS C.P g args h K' := by
  unfold dfrB at hb
  split at hb
  · rename_i fn hfn
    split at hb
    · rename_i c hc
      refine calls_of_defer (C := C.dfr (slots fn.results.toList)) (hC.dfr _).ok (g := g) (fn := fn) hfn hc rfl n n (hR _ (hC.dfr _) _ _ _ _ _ _ _ (fun o h hh => ?_) hb)
      unfold dfrQB at hh; unfold dfrQ
      split at hh
      · unfold dfrOpB at hh; unfold dfrOp
        split at hh
        · rename_i ho
          (try simp only [ho])
          unfold dfrGoB at hh; unfold dfrGo
          split at hh
          · rename_i hev
            (try simp only [hev])
            rw [Bool.and_eq_true, Bool.and_eq_true] at hh
            refine ⟨hh.1, noInvB_ok hh.2.1, hR _ (hC.dfr _) _ _ _ _ _ _ _ (fun o h hh => ?_) hh.2.2⟩
            unfold endB at hh; unfold endQ
            split at hh
            · exact defB_ok hR hC (fun p h hh => resultB_ok hK hh) hh
            · cases hh
          · cases hh
        · cases hh
      · exact resultB_ok hK hh
      · cases hh
    · cases hb
  · cases hb
theorem goB_ok {g : Nat} {args : List SV} {fid : Nat} {ops : Array Oper} {i : Nat} {idx : List Nat} {dst : Option Nat} {k : List It} {t : List SV} {fs : List Fr} {h : HS} (hb : goB C R (C.inl g) g args fid ops i idx dst k t fs h Q = true) :
    goS C (run C n) (run C.off n) (C.G g) (C.inl g) g args fid ops i idx dst k t fs h Q' := by
  rw [hC.G g]
  unfold goB at hb; unfold goS
  split at hb
  · rename_i hi; simp only [hi]; exact inlB_ok hR hC hQ hb
  · rename_i hi
    (try simp only [hi])
    exact dfrB_ok hR hC (fun o h hh => outB_ok (fun t h hh => hR C hC _ _ _ _ _ _ _ hQ hh) (fun t v h hh => panB_ok hQ hh) o h hh) hb
theorem execB_ok {nf d : Bool} {r : Res} (hnf : nf = true → nfk r) (hd : d = true → cnd r) {fid : Nat} {ops : Array Oper} {i : Nat} {idx : List Nat} {dst : Option Nat} {k : List It} {t : List SV} {fs : List Fr} {h : HS} (hb : execB C R nf d r fid ops i idx dst k t fs h Q = true) :
    execS C (run C n) (run C.off n) r fid ops i idx dst k t fs h Q' := by
  unfold execB at hb; unfold execS
  split at hb
  · rw [Bool.and_eq_true] at hb; exact ⟨hd hb.1, hR C hC _ _ _ _ _ _ _ hQ hb.2⟩
  · rw [Bool.and_eq_true] at hb; exact ⟨hd hb.1, hR C hC _ _ _ _ _ _ _ hQ hb.2⟩
  · rw [Bool.and_eq_true, Bool.or_eq_true] at hb
    refine ⟨fun hp => ?_, hR C hC _ _ _ _ _ _ _ hQ hb.2⟩
    rcases hb.1 with h1 | h1
    · exact (hnf h1 hp).elim
    · exact hR C hC _ _ _ _ _ _ _ hQ h1
  · exact panB_ok hQ hb
  · exact goB_ok hR hC hQ hb
  · rw [Bool.and_eq_true] at hb; exact ⟨hd hb.1, goB_ok hR hC hQ hb.2⟩
  · rw [Bool.and_eq_true, Bool.and_eq_true] at hb
    refine ⟨hd hb.1, fun i hi hp => ?_, fun hn => ?_⟩
    · have := allN_ok hb.2.1 i hi
      rw [hp] at this
      exact hR C hC _ _ _ _ _ _ _ hQ this
    · have := hb.2.2
      rw [Bool.or_eq_true] at this
      rcases this with h1 | h1
      · obtain ⟨i, q1, q2⟩ := anyN_ok h1
        rw [hn i q1] at q2
        cases q2
      · exact hR C hC _ _ _ _ _ _ _ hQ h1
  · exact roundB_ok hR hC hQ hb
  · exact stopB_ok hQ hb
theorem wantB_ok {b want : Bool} {o : Oper} {fid : Nat} {ops : Array Oper} {i : Nat} {idx : List Nat} {k : List It} {t : List SV} {fs : List Fr} {h : HS} (hb : wantB C R b want o fid ops i idx k t fs h Q = true) :
    wantS C (run C n) (run C.off n) b want o fid ops i idx k t fs h Q' := by
  unfold wantB at hb; unfold wantS
  cases b <;> cases want <;> simp only at hb ⊢
  · exact execB_ok hR hC hQ noF_ok dOp_ok hb
  · exact hR C hC _ _ _ _ _ _ _ hQ hb
  · exact hR C hC _ _ _ _ _ _ _ hQ hb
  · exact execB_ok hR hC hQ noF_ok dOp_ok hb
theorem opB_ok {o : Option Oper} {fid : Nat} {ops : Array Oper} {i : Nat} {idx : List Nat} {k : List It} {t : List SV} {fs : List Fr} {h : HS} (hb : opB C R o fid ops i idx k t fs h Q = true) : opS C (run C n) (run C.off n) o fid ops i idx k t fs h Q' := by
  unfold opB at hb; unfold opS
  split at hb
  · exact execB_ok hR hC hQ noF_ok dOp_ok hb
  · unfold guard1B at hb; unfold guard1
    split at hb
    · rename_i hj
      (try simp only [hj])
      unfold guardB at hb; unfold guardS
      split at hb
      · rename_i hx; simp only [hx]; exact ⟨fun _ => wantB_ok hR hC hQ hb, fun e => by cases e⟩
      · rename_i hx; simp only [hx]; exact ⟨(fun e => by cases e), fun _ => wantB_ok hR hC hQ hb⟩
      · rename_i hx; simp only [hx]; exact hR C hC _ _ _ _ _ _ _ hQ hb
      · cases hb
    · cases hb
  · cases hb

/- ### regions whose order is drawn -/
omit hR hC hQ in
theorem val_q {o : Oper} {t : List SV} {h : HS} {p : Prop} {v : SV} {h' : HS} (hr : opRes C.T C.F t h o = .val p v h') (hp : pureO o = true) (hd : dOp C.T t h o = true) : ∃ p', resQ C.G (opRes C.T C.F t h o) h = some (p', v) ∧ p' := by
  have h1 := dOp_ok (F := C.F) hd
  have h2 := pure_s (T := C.T) (F := C.F) (t := t) (h := h) hp
  rw [hr] at h1 h2 ⊢
  exact ⟨p ∧ h' = h, rfl, h1, h2⟩
omit hR hC hQ in
theorem reS1B_ok {o : Oper} {t : List SV} {h : HS} (hb : reS1B (pureO o) (dOp C.T t h o) (opRes C.T C.F t h o) o.dst t = true) : reS1 (resQ C.G (opRes C.T C.F t h o) h) o.dst t := by
  unfold reS1B at hb
  split at hb
  · rename_i p v h' hr
    rw [Bool.and_eq_true, Bool.and_eq_true] at hb
    obtain ⟨p', e1, e2⟩ := val_q hr hb.1 hb.2.1
    rw [e1]
    unfold reS1
    have h3 := hb.2.2
    cases hd : o.dst with
    | some d => rw [hd] at h3; exact ⟨e2, svEq_ok _ _ _ h3⟩
    | none => exact e2
  · cases hb
omit hR hC hQ in
theorem reAB_ok {ops : Array Oper} {t : List SV} {h : HS} : ∀ {l : List Nat}, reAB C ops t h l = true → reA C ops t h l
  | [], _ => by simp only [reA]
  | k :: l, hb => by
    simp only [reAB, Bool.and_eq_true] at hb
    (try simp only [reA])
    refine ⟨?_, reAB_ok hb.2⟩
    have h1 := hb.1
    unfold reOB at h1; unfold reO
    split at h1
    · rename_i dst op ty pos aft ho
      (try simp only [ho])
      exact reS1B_ok (o := ⟨dst, op, ty, pos, aft, none⟩) h1
    · rename_i dst op ty pos aft j want ho
      (try simp only [ho])
      split at h1
      · rename_i hj
        (try simp only [hj])
        unfold reGB at h1; unfold reG
        split at h1
        · rename_i b hx
          (try simp only [hx])
          unfold reWB at h1; unfold reW
          cases b <;> cases want <;> simp only at h1 ⊢
          · exact reS1B_ok (o := ⟨dst, op, ty, pos, aft, some (j, false)⟩) h1
          · exact reS1B_ok (o := ⟨dst, op, ty, pos, aft, some (j, true)⟩) h1
        · rename_i hx; simp only [hx]
        · cases h1
      · cases h1
    · cases h1
omit hQ in
theorem lCallB_ok {X : List SV → SV → HS → Bool} {X' : List SV → SV → HS → Prop} (hX : ∀ t v h, X t v h = true → X' t v h) {S : List SV → HS → Bool} {S' : List SV → HS → Prop} (hS : ∀ t h, S t h = true → S' t h) {g : Nat} {args : List SV} {dst : Option Nat} {t : List SV} {h : HS}
    (hb : lCallB C R X (C.inl g) g args dst S t h = true) : lCall C (run C.off n) X' (C.G g) (C.inl g) g args dst S' t h := by
  rw [hC.G g]
  unfold lCallB at hb; unfold lCall
  split at hb
  · rename_i hi
    (try simp only [hi])
    unfold nestS
    split at hb
    · rename_i hfn
      (try simp only [hfn])
      split at hb
      · rename_i hbd
        (try simp only [hbd])
        exact hR C.off hC.off _ _ _ _ _ _ _ (fun o h hh => outB_ok hS hX o h hh) hb
      · cases hb
    · cases hb
  · rename_i hi
    (try simp only [hi])
    exact dfrB_ok hR hC (fun o h hh => outB_ok hS hX o h hh) hb
omit hQ in
theorem goPB_ok {X : List SV → SV → HS → Bool} {X' : List SV → SV → HS → Prop} (hX : ∀ t v h, X t v h = true → X' t v h) {S : List SV → HS → Bool} {S' : List SV → HS → Prop} (hS : ∀ t h, S t h = true → S' t h) {quiet : Bool} {o : Oper} {t : List SV} {h : HS}
    (hb : goPB C R X quiet o S t h = true) : goP C (run C.off n) X' quiet o S' t h := by
  unfold goPB at hb; unfold goP
  cases quiet with
  | true =>
    simp only at hb ⊢
    unfold qGoB at hb
    split at hb
    · rename_i p v h' hr
      rw [Bool.and_eq_true, Bool.and_eq_true] at hb
      obtain ⟨p', e1, e2⟩ := val_q hr hb.1 hb.2.1
      rw [e1]
      exact ⟨e2, hS _ _ hb.2.2⟩
    · cases hb
  | false =>
    simp only at hb ⊢
    have hd := dOp_ok (T := C.T) (F := C.F) (t := t) (h := h) (o := o)
    unfold lGoB at hb; unfold lGo
    generalize opRes C.T C.F t h o = r at hb hd ⊢
    cases r <;> simp only at hb ⊢
    case val => rw [Bool.and_eq_true] at hb; exact ⟨hd hb.1, hS _ _ hb.2⟩
    case skip => rw [Bool.and_eq_true] at hb; exact ⟨hd hb.1, hS _ _ hb.2⟩
    case call => exact lCallB_ok hR hC hX hS hb
    case callN => rw [Bool.and_eq_true] at hb; exact ⟨hd hb.1, lCallB_ok hR hC hX hS hb.2⟩
    case round =>
      rw [Bool.and_eq_true] at hb
      refine rounds_of_run (C := C.rnd) hC.rnd.ok rfl rfl (fun o h' hq => ?_) n hb.1 (hR C.rnd hC.rnd _ _ _ _ _ _ _ (fun o h hh => hh) hb.2)
      unfold rndB at hq
      split at hq
      · exact ⟨_, rfl, hS _ _ hq⟩
      · cases hq
    all_goals cases hb
omit hQ in
theorem gateB_ok {X : List SV → SV → HS → Bool} {X' : List SV → SV → HS → Prop} (hX : ∀ t v h, X t v h = true → X' t v h) {S : List SV → HS → Bool} {S' : List SV → HS → Prop} (hS : ∀ t h, S t h = true → S' t h) {ops : Array Oper} {quiet : Bool} {o : Option Oper} {t : List SV} {h : HS}
    (hb : gateB C R X ops quiet o S t h = true) : gate C (run C.off n) X' ops quiet o S' t h := by
  have hw : ∀ b want o t, gateWB C R X b want quiet o S t h = true → gateW C (run C.off n) X' b want quiet o S' t h := fun b want o t hb => by
    unfold gateWB at hb; unfold gateW
    cases b <;> cases want <;> simp only at hb ⊢
    · exact goPB_ok hR hC hX hS hb
    · exact hS _ _ hb
    · exact hS _ _ hb
    · exact goPB_ok hR hC hX hS hb
  unfold gateB at hb; unfold gate
  split at hb
  · exact goPB_ok hR hC hX hS hb
  · split at hb
    · rename_i hj
      (try simp only [hj])
      unfold gateGB at hb; unfold gateG
      split at hb
      · rename_i hx; simp only [hx]; exact ⟨fun _ => hw _ _ _ _ hb, fun e => by cases e⟩
      · rename_i hx; simp only [hx]; exact ⟨(fun e => by cases e), fun _ => hw _ _ _ _ hb⟩
      · rename_i hx; simp only [hx]; exact hS _ _ hb
      · cases hb
    · cases hb
  · cases hb
theorem planB_ok {fid : Nat} {ops : Array Oper} {k : List It} {fs : List Fr} : ∀ {p : Plan} {t : List SV} {h : HS}, planB C R (panB C.D Q) Q fid ops k fs p t h = true → planS C (run C n) (run C.off n) (panQ C.D Q') Q' fid ops k fs p t h
  | .done, t, h, hb => by simp only [planB] at hb; simp only [planS]; exact hR C hC _ _ _ _ _ _ _ hQ hb
  | .quiet i p, t, h, hb => by simp only [planB] at hb; simp only [planS]; exact gateB_ok hR hC (fun t v h hh => panB_ok hQ hh) (fun t h hh => planB_ok hh) hb
  | .loud i re p, t, h, hb => by
    simp only [planB] at hb
    (try simp only [planS])
    refine gateB_ok hR hC (fun t v h hh => panB_ok hQ hh) (fun t h hh => ?_) hb
    unfold thenB at hh
    rw [Bool.and_eq_true] at hh
    exact ⟨reAB_ok hh.1, planB_ok hh.2⟩
  | .both p q, t, h, hb => by
    simp only [planB, Bool.and_eq_true] at hb
    (try simp only [planS])
    exact ⟨planB_ok hb.1, planB_ok hb.2⟩
theorem drawB_ok {p : Option Plan} {fid : Nat} {ops : Array Oper} {k : List It} {t : List SV} {fs : List Fr} {h : HS} (hb : drawB C R Q p fid ops k t fs h = true) : drawS C (run C n) (run C.off n) Q' p fid ops k t fs h := by
  unfold drawB at hb; unfold drawS
  split at hb
  · rw [Bool.and_eq_true, Bool.and_eq_true] at hb
    exact ⟨⟨hb.1, hb.2.1⟩, planB_ok hR hC hQ hb.2.2⟩
  · cases hb
theorem codeB_ok {fid : Nat} {c : Code} {k : List It} {t : List SV} {fs : List Fr} {h : HS} (hb : codeB R C fid c k t fs h Q = true) : run C (n + 1) fid (.code c :: k) t fs h Q' := by
  unfold codeB at hb
  split at hb
  · simp only [run]; exact hR C hC _ _ _ _ _ _ _ hQ hb
  · simp only [run]; exact hR C hC _ _ _ _ _ _ _ hQ hb
  · simp only [run]; exact hR C hC _ _ _ _ _ _ _ hQ hb
  · simp only [run]; exact condB_ok hR hC hQ hb
  · simp only [run]; exact hR C hC _ _ _ _ _ _ _ hQ hb
  · simp only [run]; exact .inr (hR C hC _ _ _ _ _ _ _ hQ hb)
  · simp only [run]; exact hR C hC _ _ _ _ _ _ _ hQ hb
  · simp only [run]; exact exitB_ok hR hC hQ hb
  · simp only [run]; exact rngB_ok hR hC hQ hb
  · simp only [run]; exact retB_ok hR hC hQ (fun e => leaveB_ok hR hC hQ e) hb
  · simp only [run]; exact hR C hC _ _ _ _ _ _ _ hQ hb
  · simp only [run]; exact drawB_ok hR hC hQ hb
  · cases hb
end
theorem stepB_ok {n : Nat} {R : RnB} (hR : Snd n R) : Snd (n + 1) (stepB R) := by
  intro C hC fid k t fs h Q Q' hQ hb
  unfold stepB at hb
  split at hb
  · simp only [run]; exact leaveB_ok hR hC hQ hb
  · exact codeB_ok hR hC hQ hb
  · simp only [run]; exact hR C hC _ _ _ _ _ _ _ hQ hb
  · simp only [run]; exact hR C hC _ _ _ _ _ _ _ hQ hb
  · simp only [run]; exact hR C hC _ _ _ _ _ _ _ hQ hb
  · simp only [run]; exact hR C hC _ _ _ _ _ _ _ hQ hb
  · simp only [run]; exact opB_ok hR hC hQ hb
  · simp only [run]; exact endRngB_ok hR hC hQ hb
  · simp only [run]; exact beginRB_ok hR hC hQ hb
  · simp only [run]; exact endRB_ok hR hC hQ hb
  · cases hb
theorem runB_ok : ∀ n, Snd n (runB n)
  | 0 => fun C hC fid k t fs h Q Q' hQ hb => by cases hb
  | n + 1 => by rw [runB_succ]; exact stepB_ok (runB_ok n)
/-- A call that is reckoned. -/
theorem calls_of_runB {C : Ctx} (hC : CtxE C) (hD : C.off = C) {g : Nat} {fn : Func} {c : Code} (hf : C.FN g = some fn) (hb : fn.body = some c) {args : List SV} {h : HS} {Q : Out → HS → Bool} (n : Nat)
    (hrun : runB n C g [.code c] (catS args (anys (fn.ntmps - lenS args))) [] h Q = true) : CallsS C.P g args h (fun o h' => Q o h' = true) :=
  calls_of_run hC.ok hD hf hb n (runB_ok n C hC _ _ _ _ _ _ _ (fun _ _ e => e) hrun)
end Go.Eng
end

/- Plans. -/
section
namespace Go.Eng
def x18_6 : Plan := .quiet 0 (.quiet 1 (.quiet 2 (.quiet 3 (.quiet 4 (.quiet 5 (.quiet 6 (.quiet 7 (.loud 8 [] (.quiet 9 (.done))))))))))
def x22_17 : Plan := .quiet 0 (.quiet 1 (.quiet 2 (.quiet 3 (.quiet 4 (.quiet 5 (.quiet 6 (.loud 7 [] (.quiet 8 (.quiet 9 (.quiet 10 (.quiet 11 (.quiet 12 (.done)))))))))))))
def x24_6 : Plan := .quiet 0 (.quiet 1 (.quiet 2 (.quiet 3 (.quiet 4 (.quiet 5 (.quiet 6 (.quiet 7 (.quiet 8 (.done)))))))))
def x36_4 : Plan := .quiet 0 (.quiet 1 (.quiet 2 (.quiet 3 (.quiet 4 (.quiet 5 (.quiet 6 (.quiet 7 (.quiet 8 (.loud 9 [] (.done))))))))))
def x36_11 : Plan := .quiet 0 (.quiet 1 (.quiet 2 (.quiet 3 (.quiet 4 (.loud 5 [0, 4] (.quiet 6 (.quiet 7 (.loud 8 [] (.done)))))))))
def x38_5 : Plan := .quiet 0 (.quiet 1 (.quiet 2 (.quiet 3 (.quiet 4 (.quiet 5 (.quiet 6 (.quiet 7 (.quiet 8 (.quiet 9 (.done))))))))))
def x38_27 : Plan := .quiet 0 (.quiet 1 (.quiet 2 (.quiet 3 (.quiet 4 (.quiet 5 (.quiet 6 (.quiet 7 (.quiet 8 (.quiet 9 (.quiet 10 (.quiet 11 (.quiet 12 (.quiet 13 (.quiet 14 (.quiet 15 (.quiet 16 (.quiet 17 (.done))))))))))))))))))
def x39_3 : Plan := .quiet 0 (.quiet 1 (.quiet 2 (.quiet 3 (.quiet 4 (.quiet 5 (.quiet 6 (.quiet 7 (.quiet 8 (.quiet 9 (.loud 10 [] (.done)))))))))))
def x60_14 : Plan := .quiet 0 (.quiet 1 (.quiet 2 (.quiet 3 (.quiet 4 (.quiet 5 (.quiet 6 (.quiet 7 (.quiet 8 (.quiet 9 (.quiet 10 (.quiet 11 (.quiet 12 (.quiet 13 (.quiet 14 (.done)))))))))))))))
def x60_21 : Plan := .quiet 0 (.quiet 1 (.quiet 2 (.quiet 4 (.quiet 5 (.loud 3 [4] (.loud 6 [] (.loud 7 [] (.loud 8 [] (.quiet 9 (.done))))))))))
def x68_2 : Plan := .quiet 0 (.quiet 1 (.loud 2 [0] (.loud 3 [] (.quiet 4 (.done)))))
def x77_0 : Plan := .quiet 0 (.quiet 1 (.quiet 2 (.quiet 3 (.quiet 4 (.quiet 5 (.quiet 6 (.quiet 7 (.quiet 8 (.quiet 9 (.quiet 10 (.quiet 11 (.quiet 12 (.quiet 13 (.quiet 14 (.loud 15 [] (.quiet 16 (.quiet 17 (.loud 18 [] (.done)))))))))))))))))))
def x86_1 : Plan := .quiet 0 (.quiet 1 (.quiet 2 (.quiet 3 (.quiet 4 (.quiet 5 (.done))))))
def x86_3 : Plan := .quiet 0 (.quiet 1 (.quiet 2 (.quiet 3 (.quiet 4 (.quiet 5 (.done))))))
def x86_5 : Plan := .quiet 0 (.quiet 1 (.quiet 2 (.quiet 3 (.quiet 4 (.quiet 5 (.quiet 6 (.quiet 7 (.quiet 8 (.loud 9 [] (.done))))))))))
def planX : List (Nat × Nat × Plan) := [(18, 6, x18_6), (22, 17, x22_17), (24, 6, x24_6), (36, 4, x36_4), (36, 11, x36_11), (38, 5, x38_5), (38, 27, x38_27), (39, 3, x39_3), (60, 14, x60_14), (60, 21, x60_21), (68, 2, x68_2), (77, 0, x77_0), (86, 1, x86_1), (86, 3, x86_3), (86, 5, x86_5)]
end Go.Eng
end
