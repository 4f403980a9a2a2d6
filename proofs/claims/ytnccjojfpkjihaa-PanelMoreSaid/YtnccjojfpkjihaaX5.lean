/-
  A part of the symbolic machine, of its soundness, and of what functions compute. No condition.
-/
import Derived.Test.YtnccjojfpkjihaaX4
set_option linter.unusedSimpArgs false
set_option linter.unusedVariables false
/- What is reckoned is true of the symbolic machine. -/
section
namespace Go.Eng
open Go.RowKit
set_option linter.unusedVariables false

structure CtxE (C : Ctx) : Prop where
  ok : CtxOk C
  G : ∀ g, C.G g = none
theorem CtxE.off {C : Ctx} (h : CtxE C) : CtxE C.off := ⟨⟨h.ok.T, h.ok.F, h.ok.FN, h.ok.G, h.ok.mix⟩, h.G⟩
theorem CtxE.rnd {C : Ctx} (h : CtxE C) : CtxE C.rnd := ⟨⟨h.ok.T, h.ok.F, h.ok.FN, h.ok.G, h.ok.mix⟩, h.G⟩
theorem CtxE.dfr {C : Ctx} (h : CtxE C) (l : List Nat) : CtxE (C.dfr l) := ⟨⟨h.ok.T, h.ok.F, h.ok.FN, h.ok.G, h.ok.mix⟩, h.G⟩
def Snd (n : Nat) (R : RnB) : Prop := ∀ C, CtxE C → ∀ fid k t fs h (Q : Out → HS → Bool) (Q' : Out → HS → Prop), (∀ o h, Q o h = true → Q' o h) → R C fid k t fs h Q = true → run C n fid k t fs h Q'

section
variable {n : Nat} {C : Ctx} {R : RnB} {Q : Out → HS → Bool} {Q' : Out → HS → Prop}
theorem panB_ok {D : Option (List Nat)} {t : List SV} {v : SV} {h : HS} (hQ : ∀ o h, Q o h = true → Q' o h) (hb : panB D Q t v h = true) : panQ D Q' t v h := by
  unfold panB at hb; unfold panQ
  cases D with
  | none => exact hQ _ _ hb
  | some l => exact hQ _ _ hb
theorem stopB_ok {D : Option (List Nat)} {k : List It} {t : List SV} {h : HS} (hQ : ∀ o h, Q o h = true → Q' o h) (hb : stopB D Q k t h = true) : stopQ D Q' k t h := by
  unfold stopB at hb; unfold stopQ
  cases D with
  | none => cases hb
  | some l => exact hQ _ _ hb
theorem outB_ok {S : List SV → HS → Bool} {S' : List SV → HS → Prop} {X : List SV → SV → HS → Bool} {X' : List SV → SV → HS → Prop} {t : List SV} {dst : Option Nat} (hS : ∀ t h, S t h = true → S' t h) (hX : ∀ t v h, X t v h = true → X' t v h) (o : Out) (h : HS)
    (hb : outB S X t dst o h = true) : outK S' X' t dst o h := by
  unfold outB at hb; unfold outK
  cases o with
  | ret v => exact hS _ _ hb
  | pan v => exact hX _ _ _ hb
  | fin _ _ => cases hb
  | stop _ _ => cases hb
  | rnd _ => cases hb
variable (hR : Snd n R) (hC : CtxE C) (hQ : ∀ o h, Q o h = true → Q' o h)
include hR hC hQ
theorem popB_ok {v : SV} {fs : List Fr} {h : HS} (hb : popB C R v fs h Q = true) : popS (run C n) v fs h Q' := by
  unfold popB at hb; unfold popS
  split at hb
  · exact hQ _ _ hb
  · split at hb
    · rename_i ho; simp only [ho]; exact hR C hC _ _ _ _ _ _ _ hQ hb
    · cases hb
  · exact hR C hC _ _ _ _ _ _ _ hQ hb
  · cases hb
theorem popRB_ok {v : SV} {fs : List Fr} {h : HS} (hb : popRB C R v fs h Q = true) : popR C (run C n) v fs h Q' := by
  unfold popRB at hb; unfold popR
  split at hb
  · split at hb
    · rename_i ho; simp only [ho]; exact hR C hC _ _ _ _ _ _ _ hQ hb
    · cases hb
  · split at hb
    · rename_i h1 h2; simp only [h1, h2]; exact hQ _ _ hb
    · cases hb
  · cases hb
theorem endRB_ok {b : Blk} {nm : Nat} {jump : Option Code} {fs : List Fr} {h : HS} (hb : endRB C R b nm jump fs h Q = true) : endRS C (run C n) b nm jump fs h Q' := by
  unfold endRB at hb; unfold endRS
  split at hb
  · exact popRB_ok hR hC hQ hb
  · cases hb
theorem beginRB_ok {x : Option Nat} {fid : Nat} {k : List It} {t : List SV} {fs : List Fr} {h : HS} (hb : beginRB C R x fid k t fs h Q = true) : beginRS (run C n) x fid k t fs h Q' := by
  unfold beginRB at hb; unfold beginRS
  split at hb
  · split at hb
    · rename_i hbl; simp only [hbl]; exact hR C hC _ _ _ _ _ _ _ hQ hb
    · cases hb
  · cases hb
theorem endRngB_ok {b : Blk} {nm fid : Nat} {k : List It} {t : List SV} {fs : List Fr} {h : HS} (hb : endRngB C R b nm fid k t fs h Q = true) : endRngS (run C n) b nm fid k t fs h Q' := by
  unfold endRngB at hb; unfold endRngS
  split at hb
  · exact hR C hC _ _ _ _ _ _ _ hQ hb
  · exact hR C hC _ _ _ _ _ _ _ hQ hb
  · exact hR C hC _ _ _ _ _ _ _ hQ hb
  · cases hb
theorem retB_ok {x : Option Nat} {jump : Code} {fs : List Fr} {h : HS} {els : Bool} {els' : Prop} (he : els = true → els') (hb : retB C R x jump fs h Q els = true) : retS C (run C n) x jump fs h Q' els' := by
  unfold retB at hb; unfold retS
  split at hb
  · exact he hb
  · exact endRB_ok hR hC hQ hb
theorem leaveB_ok {D : Option (List Nat)} {fid : Nat} {t : List SV} {fs : List Fr} {h : HS} {fn : Option Func} (hb : leaveB C R D fid t fs h Q fn = true) : leaveS C (run C n) D fid t fs h Q' fn := by
  unfold leaveB at hb; unfold leaveS
  split at hb
  · split at hb
    · split at hb
      · rename_i hres
        rw [Bool.and_eq_true] at hb
        (try simp only [hres])
        exact ⟨dResL_ok hb.1 hres, popB_ok hR hC hQ hb.2⟩
      · cases hb
    · cases hb
  · exact hQ _ _ hb
theorem condB_ok {x : SV} {fid : Nat} {a b : Code} {k : List It} {t : List SV} {fs : List Fr} {h : HS} (hb : condB C R x fid a b k t fs h Q = true) : condS (run C n) x fid a b k t fs h Q' := by
  unfold condB at hb; unfold condS
  split at hb
  · exact ⟨fun _ => hR C hC _ _ _ _ _ _ _ hQ hb, fun e => by cases e⟩
  · exact ⟨(fun e => by cases e), fun _ => hR C hC _ _ _ _ _ _ _ hQ hb⟩
  · cases hb
theorem exitB_ok {id : Nat} {k0 : List It} {k : Option (List It)} {fid : Nat} {t : List SV} {fs : List Fr} {h : HS} (hb : exitB C R id k0 k fid t fs h Q = true) : exitS C (run C n) id k0 k fid t fs h Q' := by
  unfold exitB at hb; unfold exitS
  split at hb
  · exact hR C hC _ _ _ _ _ _ _ hQ hb
  · exact retB_ok hR hC hQ (fun e => by cases e) hb
theorem rngGoB_ok {D : Option (List Nat)} {fn : Option Func} {g : Nat} {args : List SV} {nm fid : Nat} {k : List It} {t : List SV} {fs : List Fr} {h : HS} (hb : rngGoB C R D fn g args nm fid k t fs h Q = true) : rngGo C (run C n) (run C.off n) D fn g args nm fid k t fs h Q' := by
  unfold rngGoB at hb; unfold rngGo
  cases fn with
  | none => cases hb
  | some fn =>
    simp only at hb ⊢
    cases hbd : fn.body with
    | none => rw [hbd] at hb; cases hb
    | some c =>
      rw [hbd] at hb
      cases D with
      | none => exact hR C hC _ _ _ _ _ _ _ hQ hb
      | some l => exact hR C.off hC.off _ _ _ _ _ _ _ (fun o h hh => outB_ok (fun t h hh => hR C hC _ _ _ _ _ _ _ hQ hh) (fun t v h hh => panB_ok hQ hh) o h hh) hb
theorem rngB_ok {f : SV} {params : Array Nat} {assign body : Code} {fid : Nat} {k : List It} {t : List SV} {fs : List Fr} {h : HS} (hb : rngB C R f params assign body fid k t fs h Q = true) : rngS C (run C n) (run C.off n) f params assign body fid k t fs h Q' := by
  unfold rngB at hb; unfold rngS
  split at hb
  · rw [Bool.and_eq_true, Bool.and_eq_true] at hb
    exact ⟨hb.1, by simpa using hb.2.1, rngGoB_ok hR hC hQ hb.2.2⟩
  · cases hb
theorem roundB_ok {D : Option (List Nat)} {ok : Bool} {nm rf : Nat} {rt : List SV} {assign body : Code} {fid : Nat} {ops : Array Oper} {i : Nat} {idx : List Nat} {dst : Option Nat} {k : List It} {t : List SV} {fs : List Fr} {h : HS} (hb : roundB C R D ok nm rf rt assign body fid ops i idx k t fs h Q = true) :
    roundS C (run C n) C.rs D ok nm rf rt assign body fid ops i idx dst k t fs h Q' := by
  unfold roundB at hb; unfold roundS
  split at hb
  · rename_i hrs; rw [Bool.and_eq_true] at hb; rw [hrs]; exact ⟨hb.1, hR C hC _ _ _ _ _ _ _ hQ hb.2⟩
  · cases hb
theorem inlB_ok {D : Option (List Nat)} {fn : Option Func} {g : Nat} {args : List SV} {fid : Nat} {ops : Array Oper} {i : Nat} {idx : List Nat} {dst : Option Nat} {k : List It} {t : List SV} {fs : List Fr} {h : HS} (hb : inlB C R D fn g args fid ops i idx dst k t fs h Q = true) :
    inlS C (run C n) (run C.off n) D fn g args fid ops i idx dst k t fs h Q' := by
  unfold inlB at hb; unfold inlS
  cases fn with
  | none => cases hb
  | some fn =>
    simp only at hb ⊢
    cases hbd : fn.body with
    | none => rw [hbd] at hb; cases hb
    | some c =>
      rw [hbd] at hb
      cases D with
      | none => exact hR C hC _ _ _ _ _ _ _ hQ hb
      | some l => exact hR C.off hC.off _ _ _ _ _ _ _ (fun o h hh => outB_ok (fun t h hh => hR C hC _ _ _ _ _ _ _ hQ hh) (fun t v h hh => panB_ok hQ hh) o h hh) hb
omit hR hC hQ in
theorem resultB_ok {K : Out → HS → Bool} {K' : Out → HS → Prop} (hK : ∀ o h, K o h = true → K' o h) {l : List Nat} {fn : Func} {ts : List SV} {p : Option SV} {h : HS} (hb : resultB C fn K ts p h = true) : resultQ (C.dfr l) fn K' ts p h := by
  unfold resultB at hb; unfold resultQ
  split at hb
  · split at hb
    · rename_i hr
      rw [Bool.and_eq_true] at hb
      have hr' : resK (C.dfr l).T h fn.results.toList ts = _ := hr
      simp only [hr']
      exact ⟨dResK_ok hb.1 hr, hK _ _ hb.2⟩
    · cases hb
  · exact hK _ _ hb
omit hQ in
theorem defB_ok {K : Option SV → HS → Bool} {K' : Option SV → HS → Prop} (hK : ∀ p h, K p h = true → K' p h) {g : Nat} {args : List SV} {p : Option SV} {h : HS} (hb : defB C R g args p h K = true) : DefS C.P g args p h K' := by
  unfold defB at hb
  split at hb
  · rename_i fn hfn
    split at hb
    · rename_i c hc
      rw [Bool.and_eq_true] at hb
      have hres : fn.results = #[] := by
        have := hb.1
        rw [List.isEmpty_iff] at this
        exact Array.toList_eq_nil_iff.1 this
      refine defS_of_run (C := C.dfr []) (hC.dfr []).ok (g := g) hfn hc hres rfl n n (hR (C.dfr []) (hC.dfr []) _ _ _ _ _ _ _ (fun o h hh => ?_) hb.2)
      unfold rcvB at hh; unfold rcvQ
      split at hh
      · unfold rcvOpB at hh; unfold rcvOp
        split at hh
        · rename_i ho
          rw [Bool.and_eq_true] at hh
          (try simp only [ho])
          refine ⟨noInvB_ok hh.1, hR (C.dfr []) (hC.dfr []) _ _ _ _ _ _ _ (fun o h hh => ?_) hh.2⟩
          unfold rcvEndB at hh; unfold rcvEnd
          split at hh
          · exact hK _ _ hh
          · cases hh
        · cases hh
      · cases hh
    · cases hb
  · cases hb
omit hQ in
theorem dfrB_ok {K : Out → HS → Bool} {K' : Out → HS → Prop} (hK : ∀ o h, K o h = true → K' o h) {g : Nat} {args : List SV} {h : HS} (hb : dfrB C R g args h K = true) : CallsS C.P g args h K' := by
  unfold dfrB at hb
  split at hb
  · rename_i fn hfn
    split at hb
    · rename_i c hc
      refine calls_of_defer (C := C.dfr (slots fn.results.toList)) (hC.dfr _).ok (g := g) (fn := fn) hfn hc rfl n n (hR _ (hC.dfr _) _ _ _ _ _ _ _ (fun o h hh => ?_) hb)
      unfold dfrQB at hh; unfold dfrQ
      split at hh
      · unfold dfrOpB at hh; unfold dfrOp
        split at hh
        · rename_i ho
          (try simp only [ho])
          unfold dfrGoB at hh; unfold dfrGo
          split at hh
          · rename_i hev
            (try simp only [hev])
            rw [Bool.and_eq_true, Bool.and_eq_true] at hh
            refine ⟨hh.1, noInvB_ok hh.2.1, hR _ (hC.dfr _) _ _ _ _ _ _ _ (fun o h hh => ?_) hh.2.2⟩
            unfold endB at hh; unfold endQ
            split at hh
            · exact defB_ok hR hC (fun p h hh => resultB_ok hK hh) hh
            · cases hh
          · cases hh
        · cases hh
      · exact resultB_ok hK hh
      · cases hh
    · cases hb
  · cases hb
theorem goB_ok {g : Nat} {args : List SV} {fid : Nat} {ops : Array Oper} {i : Nat} {idx : List Nat} {dst : Option Nat} {k : List It} {t : List SV} {fs : List Fr} {h : HS} (hb : goB C R (C.inl g) g args fid ops i idx dst k t fs h Q = true) :
    goS C (run C n) (run C.off n) (C.G g) (C.inl g) g args fid ops i idx dst k t fs h Q' := by
  rw [hC.G g]
  unfold goB at hb; unfold goS
  split at hb
  · rename_i hi; simp only [hi]; exact inlB_ok hR hC hQ hb
  · rename_i hi
    (try simp only [hi])
    exact dfrB_ok hR hC (fun o h hh => outB_ok (fun t h hh => hR C hC _ _ _ _ _ _ _ hQ hh) (fun t v h hh => panB_ok hQ hh) o h hh) hb
theorem execB_ok {nf d : Bool} {r : Res} (hnf : nf = true → nfk r) (hd : d = true → cnd r) {fid : Nat} {ops : Array Oper} {i : Nat} {idx : List Nat} {dst : Option Nat} {k : List It} {t : List SV} {fs : List Fr} {h : HS} (hb : execB C R nf d r fid ops i idx dst k t fs h Q = true) :
    execS C (run C n) (run C.off n) r fid ops i idx dst k t fs h Q' := by
  unfold execB at hb; unfold execS
  split at hb
  · rw [Bool.and_eq_true] at hb; exact ⟨hd hb.1, hR C hC _ _ _ _ _ _ _ hQ hb.2⟩
  · rw [Bool.and_eq_true] at hb; exact ⟨hd hb.1, hR C hC _ _ _ _ _ _ _ hQ hb.2⟩
  · rw [Bool.and_eq_true, Bool.or_eq_true] at hb
    refine ⟨fun hp => ?_, hR C hC _ _ _ _ _ _ _ hQ hb.2⟩
    rcases hb.1 with h1 | h1
    · exact (hnf h1 hp).elim
    · exact hR C hC _ _ _ _ _ _ _ hQ h1
  · exact panB_ok hQ hb
  · exact goB_ok hR hC hQ hb
  · rw [Bool.and_eq_true] at hb; exact ⟨hd hb.1, goB_ok hR hC hQ hb.2⟩
  · rw [Bool.and_eq_true, Bool.and_eq_true] at hb
    refine ⟨hd hb.1, fun i hi hp => ?_, fun hn => ?_⟩
    · have := allN_ok hb.2.1 i hi
      rw [hp] at this
      exact hR C hC _ _ _ _ _ _ _ hQ this
    · have := hb.2.2
      rw [Bool.or_eq_true] at this
      rcases this with h1 | h1
      · obtain ⟨i, q1, q2⟩ := anyN_ok h1
        rw [hn i q1] at q2
        cases q2
      · exact hR C hC _ _ _ _ _ _ _ hQ h1
  · exact roundB_ok hR hC hQ hb
  · exact stopB_ok hQ hb
theorem wantB_ok {b want : Bool} {o : Oper} {fid : Nat} {ops : Array Oper} {i : Nat} {idx : List Nat} {k : List It} {t : List SV} {fs : List Fr} {h : HS} (hb : wantB C R b want o fid ops i idx k t fs h Q = true) :
    wantS C (run C n) (run C.off n) b want o fid ops i idx k t fs h Q' := by
  unfold wantB at hb; unfold wantS
  cases b <;> cases want <;> simp only at hb ⊢
  · exact execB_ok hR hC hQ noF_ok dOp_ok hb
  · exact hR C hC _ _ _ _ _ _ _ hQ hb
  · exact hR C hC _ _ _ _ _ _ _ hQ hb
  · exact execB_ok hR hC hQ noF_ok dOp_ok hb
theorem opB_ok {o : Option Oper} {fid : Nat} {ops : Array Oper} {i : Nat} {idx : List Nat} {k : List It} {t : List SV} {fs : List Fr} {h : HS} (hb : opB C R o fid ops i idx k t fs h Q = true) : opS C (run C n) (run C.off n) o fid ops i idx k t fs h Q' := by
  unfold opB at hb; unfold opS
  split at hb
  · exact execB_ok hR hC hQ noF_ok dOp_ok hb
  · unfold guard1B at hb; unfold guard1
    split at hb
    · rename_i hj
      (try simp only [hj])
      unfold guardB at hb; unfold guardS
      split at hb
      · rename_i hx; simp only [hx]; exact ⟨fun _ => wantB_ok hR hC hQ hb, fun e => by cases e⟩
      · rename_i hx; simp only [hx]; exact ⟨(fun e => by cases e), fun _ => wantB_ok hR hC hQ hb⟩
      · rename_i hx; simp only [hx]; exact hR C hC _ _ _ _ _ _ _ hQ hb
      · cases hb
    · cases hb
  · cases hb

/- ### regions whose order is drawn -/
omit hR hC hQ in
theorem val_q {o : Oper} {t : List SV} {h : HS} {p : Prop} {v : SV} {h' : HS} (hr : opRes C.T C.F t h o = .val p v h') (hp : pureO o = true) (hd : dOp C.T t h o = true) : ∃ p', resQ C.G (opRes C.T C.F t h o) h = some (p', v) ∧ p' := by
  have h1 := dOp_ok (F := C.F) hd
  have h2 := pure_s (T := C.T) (F := C.F) (t := t) (h := h) hp
  rw [hr] at h1 h2 ⊢
  exact ⟨p ∧ h' = h, rfl, h1, h2⟩
omit hR hC hQ in
theorem reS1B_ok {o : Oper} {t : List SV} {h : HS} (hb : reS1B (pureO o) (dOp C.T t h o) (opRes C.T C.F t h o) o.dst t = true) : reS1 (resQ C.G (opRes C.T C.F t h o) h) o.dst t := by
  unfold reS1B at hb
  split at hb
  · rename_i p v h' hr
    rw [Bool.and_eq_true, Bool.and_eq_true] at hb
    obtain ⟨p', e1, e2⟩ := val_q hr hb.1 hb.2.1
    rw [e1]
    unfold reS1
    have h3 := hb.2.2
    cases hd : o.dst with
    | some d => rw [hd] at h3; exact ⟨e2, svEq_ok _ _ _ h3⟩
    | none => exact e2
  · cases hb
omit hR hC hQ in
theorem reAB_ok {ops : Array Oper} {t : List SV} {h : HS} : ∀ {l : List Nat}, reAB C ops t h l = true → reA C ops t h l
  | [], _ => by simp only [reA]
  | k :: l, hb => by
    simp only [reAB, Bool.and_eq_true] at hb
    (try simp only [reA])
    refine ⟨?_, reAB_ok hb.2⟩
    have h1 := hb.1
    unfold reOB at h1; unfold reO
    split at h1
    · rename_i dst op ty pos aft ho
      (try simp only [ho])
      exact reS1B_ok (o := ⟨dst, op, ty, pos, aft, none⟩) h1
    · rename_i dst op ty pos aft j want ho
      (try simp only [ho])
      split at h1
      · rename_i hj
        (try simp only [hj])
        unfold reGB at h1; unfold reG
        split at h1
        · rename_i b hx
          (try simp only [hx])
          unfold reWB at h1; unfold reW
          cases b <;> cases want <;> simp only at h1 ⊢
          · exact reS1B_ok (o := ⟨dst, op, ty, pos, aft, some (j, false)⟩) h1
          · exact reS1B_ok (o := ⟨dst, op, ty, pos, aft, some (j, true)⟩) h1
        · rename_i hx; simp only [hx]
        · cases h1
      · cases h1
    · cases h1
omit hQ in
theorem lCallB_ok {X : List SV → SV → HS → Bool} {X' : List SV → SV → HS → Prop} (hX : ∀ t v h, X t v h = true → X' t v h) {S : List SV → HS → Bool} {S' : List SV → HS → Prop} (hS : ∀ t h, S t h = true → S' t h) {g : Nat} {args : List SV} {dst : Option Nat} {t : List SV} {h : HS}
    (hb : lCallB C R X (C.inl g) g args dst S t h = true) : lCall C (run C.off n) X' (C.G g) (C.inl g) g args dst S' t h := by
  rw [hC.G g]
  unfold lCallB at hb; unfold lCall
  split at hb
  · rename_i hi
    (try simp only [hi])
    unfold nestS
    split at hb
    · rename_i hfn
      (try simp only [hfn])
      split at hb
      · rename_i hbd
        (try simp only [hbd])
        exact hR C.off hC.off _ _ _ _ _ _ _ (fun o h hh => outB_ok hS hX o h hh) hb
      · cases hb
    · cases hb
  · rename_i hi
    (try simp only [hi])
    exact dfrB_ok hR hC (fun o h hh => outB_ok hS hX o h hh) hb
omit hQ in
theorem goPB_ok {X : List SV → SV → HS → Bool} {X' : List SV → SV → HS → Prop} (hX : ∀ t v h, X t v h = true → X' t v h) {S : List SV → HS → Bool} {S' : List SV → HS → Prop} (hS : ∀ t h, S t h = true → S' t h) {quiet : Bool} {o : Oper} {t : List SV} {h : HS}
    (hb : goPB C R X quiet o S t h = true) : goP C (run C.off n) X' quiet o S' t h := by
  unfold goPB at hb; unfold goP
  cases quiet with
  | true =>
    simp only at hb ⊢
    unfold qGoB at hb
    split at hb
    · rename_i p v h' hr
      rw [Bool.and_eq_true, Bool.and_eq_true] at hb
      obtain ⟨p', e1, e2⟩ := val_q hr hb.1 hb.2.1
      rw [e1]
      exact ⟨e2, hS _ _ hb.2.2⟩
    · cases hb
  | false =>
    simp only at hb ⊢
    have hd := dOp_ok (T := C.T) (F := C.F) (t := t) (h := h) (o := o)
    unfold lGoB at hb; unfold lGo
    generalize opRes C.T C.F t h o = r at hb hd ⊢
    cases r <;> simp only at hb ⊢
    case val => rw [Bool.and_eq_true] at hb; exact ⟨hd hb.1, hS _ _ hb.2⟩
    case skip => rw [Bool.and_eq_true] at hb; exact ⟨hd hb.1, hS _ _ hb.2⟩
    case call => exact lCallB_ok hR hC hX hS hb
    case callN => rw [Bool.and_eq_true] at hb; exact ⟨hd hb.1, lCallB_ok hR hC hX hS hb.2⟩
    case round =>
      rw [Bool.and_eq_true] at hb
      refine rounds_of_run (C := C.rnd) hC.rnd.ok rfl rfl (fun o h' hq => ?_) n hb.1 (hR C.rnd hC.rnd _ _ _ _ _ _ _ (fun o h hh => hh) hb.2)
      unfold rndB at hq
      split at hq
      · exact ⟨_, rfl, hS _ _ hq⟩
      · cases hq
    all_goals cases hb
omit hQ in
theorem gateB_ok {X : List SV → SV → HS → Bool} {X' : List SV → SV → HS → Prop} (hX : ∀ t v h, X t v h = true → X' t v h) {S : List SV → HS → Bool} {S' : List SV → HS → Prop} (hS : ∀ t h, S t h = true → S' t h) {ops : Array Oper} {quiet : Bool} {o : Option Oper} {t : List SV} {h : HS}
    (hb : gateB C R X ops quiet o S t h = true) : gate C (run C.off n) X' ops quiet o S' t h := by
  have hw : ∀ b want o t, gateWB C R X b want quiet o S t h = true → gateW C (run C.off n) X' b want quiet o S' t h := fun b want o t hb => by
    unfold gateWB at hb; unfold gateW
    cases b <;> cases want <;> simp only at hb ⊢
    · exact goPB_ok hR hC hX hS hb
    · exact hS _ _ hb
    · exact hS _ _ hb
    · exact goPB_ok hR hC hX hS hb
  unfold gateB at hb; unfold gate
  split at hb
  · exact goPB_ok hR hC hX hS hb
  · split at hb
    · rename_i hj
      (try simp only [hj])
      unfold gateGB at hb; unfold gateG
      split at hb
      · rename_i hx; simp only [hx]; exact ⟨fun _ => hw _ _ _ _ hb, fun e => by cases e⟩
      · rename_i hx; simp only [hx]; exact ⟨(fun e => by cases e), fun _ => hw _ _ _ _ hb⟩
      · rename_i hx; simp only [hx]; exact hS _ _ hb
      · cases hb
    · cases hb
  · cases hb
theorem planB_ok {fid : Nat} {ops : Array Oper} {k : List It} {fs : List Fr} : ∀ {p : Plan} {t : List SV} {h : HS}, planB C R (panB C.D Q) Q fid ops k fs p t h = true → planS C (run C n) (run C.off n) (panQ C.D Q') Q' fid ops k fs p t h
  | .done, t, h, hb => by simp only [planB] at hb; simp only [planS]; exact hR C hC _ _ _ _ _ _ _ hQ hb
  | .quiet i p, t, h, hb => by simp only [planB] at hb; simp only [planS]; exact gateB_ok hR hC (fun t v h hh => panB_ok hQ hh) (fun t h hh => planB_ok hh) hb
  | .loud i re p, t, h, hb => by
    simp only [planB] at hb
    (try simp only [planS])
    refine gateB_ok hR hC (fun t v h hh => panB_ok hQ hh) (fun t h hh => ?_) hb
    unfold thenB at hh
    rw [Bool.and_eq_true] at hh
    exact ⟨reAB_ok hh.1, planB_ok hh.2⟩
  | .both p q, t, h, hb => by
    simp only [planB, Bool.and_eq_true] at hb
    (try simp only [planS])
    exact ⟨planB_ok hb.1, planB_ok hb.2⟩
theorem drawB_ok {p : Option Plan} {fid : Nat} {ops : Array Oper} {k : List It} {t : List SV} {fs : List Fr} {h : HS} (hb : drawB C R Q p fid ops k t fs h = true) : drawS C (run C n) (run C.off n) Q' p fid ops k t fs h := by
  unfold drawB at hb; unfold drawS
  split at hb
  · rw [Bool.and_eq_true, Bool.and_eq_true] at hb
    exact ⟨⟨hb.1, hb.2.1⟩, planB_ok hR hC hQ hb.2.2⟩
  · cases hb
theorem codeB_ok {fid : Nat} {c : Code} {k : List It} {t : List SV} {fs : List Fr} {h : HS} (hb : codeB R C fid c k t fs h Q = true) : run C (n + 1) fid (.code c :: k) t fs h Q' := by
  unfold codeB at hb
  split at hb
  · simp only [run]; exact hR C hC _ _ _ _ _ _ _ hQ hb
  · simp only [run]; exact hR C hC _ _ _ _ _ _ _ hQ hb
  · simp only [run]; exact hR C hC _ _ _ _ _ _ _ hQ hb
  · simp only [run]; exact condB_ok hR hC hQ hb
  · simp only [run]; exact hR C hC _ _ _ _ _ _ _ hQ hb
  · simp only [run]; exact .inr (hR C hC _ _ _ _ _ _ _ hQ hb)
  · simp only [run]; exact hR C hC _ _ _ _ _ _ _ hQ hb
  · simp only [run]; exact exitB_ok hR hC hQ hb
  · simp only [run]; exact rngB_ok hR hC hQ hb
  · simp only [run]; exact retB_ok hR hC hQ (fun e => leaveB_ok hR hC hQ e) hb
  · simp only [run]; exact hR C hC _ _ _ _ _ _ _ hQ hb
  · simp only [run]; exact drawB_ok hR hC hQ hb
  · cases hb
end
theorem stepB_ok {n : Nat} {R : RnB} (hR : Snd n R) : Snd (n + 1) (stepB R) := by
  intro C hC fid k t fs h Q Q' hQ hb
  unfold stepB at hb
  split at hb
  · simp only [run]; exact leaveB_ok hR hC hQ hb
  · exact codeB_ok hR hC hQ hb
  · simp only [run]; exact hR C hC _ _ _ _ _ _ _ hQ hb
  · simp only [run]; exact hR C hC _ _ _ _ _ _ _ hQ hb
  · simp only [run]; exact hR C hC _ _ _ _ _ _ _ hQ hb
  · simp only [run]; exact hR C hC _ _ _ _ _ _ _ hQ hb
  · simp only [run]; exact opB_ok hR hC hQ hb
  · simp only [run]; exact endRngB_ok hR hC hQ hb
  · simp only [run]; exact beginRB_ok hR hC hQ hb
  · simp only [run]; exact endRB_ok hR hC hQ hb
  · cases hb
theorem runB_ok : ∀ n, Snd n (runB n)
  | 0 => fun C hC fid k t fs h Q Q' hQ hb => by cases hb
  | n + 1 => by rw [runB_succ]; exact stepB_ok (runB_ok n)
/-- A call that is reckoned. -/
theorem calls_of_runB {C : Ctx} (hC : CtxE C) (hD : C.off = C) {g : Nat} {fn : Func} {c : Code} (hf : C.FN g = some fn) (hb : fn.body = some c) {args : List SV} {h : HS} {Q : Out → HS → Bool} (n : Nat)
    (hrun : runB n C g [.code c] (catS args (anys (fn.ntmps - lenS args))) [] h Q = true) : CallsS C.P g args h (fun o h' => Q o h' = true) :=
  calls_of_run hC.ok hD hf hb n (runB_ok n C hC _ _ _ _ _ _ _ (fun _ _ e => e) hrun)
end Go.Eng
end

/- Plans. -/
section
namespace Go.Eng
def x18_6 : Plan := .quiet 0 (.quiet 1 (.quiet 2 (.quiet 3 (.quiet 4 (.quiet 5 (.quiet 6 (.quiet 7 (.loud 8 [] (.quiet 9 (.done))))))))))
def x22_17 : Plan := .quiet 0 (.quiet 1 (.quiet 2 (.quiet 3 (.quiet 4 (.quiet 5 (.quiet 6 (.loud 7 [] (.quiet 8 (.quiet 9 (.quiet 10 (.quiet 11 (.quiet 12 (.done)))))))))))))
def x24_6 : Plan := .quiet 0 (.quiet 1 (.quiet 2 (.quiet 3 (.quiet 4 (.quiet 5 (.quiet 6 (.quiet 7 (.quiet 8 (.done)))))))))
def x36_4 : Plan := .quiet 0 (.quiet 1 (.quiet 2 (.quiet 3 (.quiet 4 (.quiet 5 (.quiet 6 (.quiet 7 (.quiet 8 (.loud 9 [] (.done))))))))))
def x36_11 : Plan := .quiet 0 (.quiet 1 (.quiet 2 (.quiet 3 (.quiet 4 (.loud 5 [0, 4] (.quiet 6 (.quiet 7 (.loud 8 [] (.done)))))))))
def x38_5 : Plan := .quiet 0 (.quiet 1 (.quiet 2 (.quiet 3 (.quiet 4 (.quiet 5 (.quiet 6 (.quiet 7 (.quiet 8 (.quiet 9 (.done))))))))))
def x38_27 : Plan := .quiet 0 (.quiet 1 (.quiet 2 (.quiet 3 (.quiet 4 (.quiet 5 (.quiet 6 (.quiet 7 (.quiet 8 (.quiet 9 (.quiet 10 (.quiet 11 (.quiet 12 (.quiet 13 (.quiet 14 (.quiet 15 (.quiet 16 (.quiet 17 (.done))))))))))))))))))
def x39_3 : Plan := .quiet 0 (.quiet 1 (.quiet 2 (.quiet 3 (.quiet 4 (.quiet 5 (.quiet 6 (.quiet 7 (.quiet 8 (.quiet 9 (.loud 10 [] (.done)))))))))))
def x60_14 : Plan := .quiet 0 (.quiet 1 (.quiet 2 (.quiet 3 (.quiet 4 (.quiet 5 (.quiet 6 (.quiet 7 (.quiet 8 (.quiet 9 (.quiet 10 (.quiet 11 (.quiet 12 (.quiet 13 (.quiet 14 (.done)))))))))))))))
def x60_21 : Plan := .quiet 0 (.quiet 1 (.quiet 2 (.quiet 4 (.quiet 5 (.loud 3 [4] (.loud 6 [] (.loud 7 [] (.loud 8 [] (.quiet 9 (.done))))))))))
def x68_2 : Plan := .quiet 0 (.quiet 1 (.loud 2 [0] (.loud 3 [] (.quiet 4 (.done)))))
def x77_0 : Plan := .quiet 0 (.quiet 1 (.quiet 2 (.quiet 3 (.quiet 4 (.quiet 5 (.quiet 6 (.quiet 7 (.quiet 8 (.quiet 9 (.quiet 10 (.quiet 11 (.quiet 12 (.quiet 13 (.quiet 14 (.loud 15 [] (.quiet 16 (.quiet 17 (.loud 18 [] (.done)))))))))))))))))))
def x86_1 : Plan := .quiet 0 (.quiet 1 (.quiet 2 (.quiet 3 (.quiet 4 (.quiet 5 (.done))))))
def x86_3 : Plan := .quiet 0 (.quiet 1 (.quiet 2 (.quiet 3 (.quiet 4 (.quiet 5 (.done))))))
def x86_5 : Plan := .quiet 0 (.quiet 1 (.quiet 2 (.quiet 3 (.quiet 4 (.quiet 5 (.quiet 6 (.quiet 7 (.quiet 8 (.loud 9 [] (.done))))))))))
def planX : List (Nat × Nat × Plan) := [(18, 6, x18_6), (22, 17, x22_17), (24, 6, x24_6), (36, 4, x36_4), (36, 11, x36_11), (38, 5, x38_5), (38, 27, x38_27), (39, 3, x39_3), (60, 14, x60_14), (60, 21, x60_21), (68, 2, x68_2), (77, 0, x77_0), (86, 1, x86_1), (86, 3, x86_3), (86, 5, x86_5)]
end Go.Eng
end
