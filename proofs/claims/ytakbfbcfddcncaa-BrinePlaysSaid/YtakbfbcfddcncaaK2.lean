/-
  A part of the symbolic machine, of its soundness, and of what functions compute. No condition.
-/
import Derived.Test.YtakbfbcfddcncaaK1
set_option linter.unusedSimpArgs false
set_option linter.unusedVariables false
/- brine: what events do, in memory: leak. -/
section
namespace Go.Eng
open Go Go.RowKit Go.Proofs
set_option maxRecDepth 100000
set_option maxHeartbeats 4000000
attribute [local irreducible] OwnT DefS
theorem upN_id (ver : Nat → Nat) (i : Nat) : upN ver i (ver i) = ver := by funext j; simp only [upN]; split <;> simp_all
theorem updV_up (ver : Nat → Nat) (sl : Nat → List Sl) (i v : Nat) (l : List Sl) : updV (fun i => slV (ver i) (sl i)) i (slV v l) = fun j => slV (upN ver i v j) (upL sl i l j) := by
  funext j
  simp only [updV, upN, upL]
  split <;> rfl
theorem smL_snoc (l : List Sl) (y : Sl) : smL (l ++ [y]) = plS (smL l) y := by rw [smL_app]; simp [smL, plS]
theorem leak_calls {N : Nat} {room : Nat → Int} (hN : N ≤ 1000) (hroom : ∀ i, i < N → 0 ≤ room i ∧ room i ≤ 1048576) {s : TkP} {R : Rst} {H : Int} (hok : POk N room s R H) (hH : H ≤ 4398046511104) (ver : Nat → Nat) (k p a q : Int) :
    CallsS Try.prog 56 [.ptr 0 0, .agg [.int .i64 k, .int .i64 p, .int .i64 a, .int .i64 q]] (heapS N room s ver R) (Wild N room (DoK (leakM N s R p a) s R)) := by
  refine calls_of_run (C := cx [71] [] [(36, withinBase), (49, isHeatBase), (69, litresBase), (41, plusBase), (42, sumBase)] [(56, 3, p56_3), (56, 5, p56_5), (73, 1, p73_1), (73, 2, p73_2), (72, 3, p72_3), (72, 4, p72_4), (78, 1, p78_1), (78, 4, p78_4)] none) (cx_ok trivial ⟨within_base, isHeat_base, litres_base, plus_base, sum_base, trivial⟩) rfl (g := 56) (fn := Try.f56) (fn_56) rfl 1000 ?_
  have ht := hok.ok.t
  have hth := hok.ok.heat_nonneg
  have hok' := hok
  obtain ⟨p1, p2, pz, p3, p4, p5, p6, p7, p8, p9, p10, p11, p12, p13⟩ := hok
  unfold TkP.heat at p3
  have wN1 : IntKind.i64.wrap ((N : Int) - 1) = (N : Int) - 1 := wrap_id (by omega) (by omega)
  cases hp : in3 p 0 ((N : Int) - 1) with
  | false =>
    have hm : leakM N s R p a = (1, s, R) := by simp [leakM, hp]
    rw [hm]
    simp only [heapS, plB, pipes, getV_fL, setV_fL, getV_fI, setV_fI, getV_fP, setV_fP, snocV_fam', fam_lenV, updV_same, updV_upd, upN_same, catS1_eq, catS1_intR, catS1_slL, catS1_frz, piF_0, piF_1, piF_upd, slV, wN1, hp, Try.f56, Try.f73, Try.f35, within_eq, isHeat_eq, litres_eq, plus_eq, sum_eq, p56_3, p56_5, p73_1, p73_2, go_sem, ↓reduceIte, Nat.reduceAdd, Nat.reduceSub, Nat.reduceMul, Nat.reduceEqDiff, Nat.reduceLT, Nat.reduceLeDiff, Int.reduceToNat, Int.reduceLE, Int.reduceLT, Int.reduceEq, Int.reduceNeg, reduceCtorEq]
    exact ⟨⟨by kernel_rfl, by kernel_rfl⟩, wild_er (e := 1) (by decide) ver rfl (fun _ _ => subVk_rfl _)⟩
  | true =>
    obtain ⟨hp1, hp2⟩ := in3_iff.1 hp
    obtain ⟨i, rfl⟩ : ∃ i : Nat, p = (i : Int) := ⟨p.toNat, by omega⟩
    have hi : i < N := by omega
    have hiN : (i : Int) < (N : Int) := by omega
    have hi0 : (0 : Int) ≤ (i : Int) := by omega
    cases ha : in3 a 1 1048576 with
    | false =>
      have hm : leakM N s R i a = (1, s, R) := by simp [leakM, ha]
      rw [hm]
      simp only [heapS, plB, pipes, getV_fL, setV_fL, getV_fI, setV_fI, getV_fP, setV_fP, snocV_fam', fam_lenV, updV_same, updV_upd, upN_same, catS1_eq, catS1_intR, catS1_slL, catS1_frz, piF_0, piF_1, piF_upd, slV, wN1, hp, ha, hi, hiN, hi0, Int.toNat_natCast, Try.f56, Try.f73, Try.f35, within_eq, isHeat_eq, litres_eq, plus_eq, sum_eq, p56_3, p56_5, p73_1, p73_2, go_sem, ↓reduceIte, Nat.reduceAdd, Nat.reduceSub, Nat.reduceMul, Nat.reduceEqDiff, Nat.reduceLT, Nat.reduceLeDiff, Int.reduceToNat, Int.reduceLE, Int.reduceLT, Int.reduceEq, Int.reduceNeg, reduceCtorEq]
      exact ⟨⟨by kernel_rfl, by kernel_rfl⟩, ⟨by kernel_rfl, by kernel_rfl⟩, wild_er (e := 1) (by decide) ver rfl (fun _ _ => subVk_rfl _)⟩
    | true =>
      obtain ⟨ha1, ha2⟩ := in3_iff.1 ha
      simp only [heapS, plB, pipes, getV_fL, setV_fL, getV_fI, setV_fI, getV_fP, setV_fP, snocV_fam', fam_lenV, updV_same, updV_upd, upN_same, catS1_eq, catS1_intR, catS1_slL, catS1_frz, piF_0, piF_1, piF_upd, slV, slL_slI, wN1, hp, ha, hi, hiN, hi0, Int.toNat_natCast, Try.f56, Try.f73, Try.f35, Try.f74, Try.f78, within_eq, isHeat_eq, litres_eq, plus_eq, sum_eq, p56_3, p56_5, p73_1, p73_2, go_sem, ↓reduceIte, Nat.reduceAdd, Nat.reduceSub, Nat.reduceMul, Nat.reduceEqDiff, Nat.reduceLT, Nat.reduceLeDiff, Int.reduceToNat, Int.reduceLE, Int.reduceLT, Int.reduceEq, Int.reduceNeg, reduceCtorEq]
      have hoi := p1.ok i hi
      have hri := p1.room i hi
      have hli := p1.len i hi
      have hro := hroom i hi
      have hle := smN_le (f := fun i => heatL (s.sl i)) N i hi (fun j hj => (p1.ok j hj).heat)
      have hvn := hoi.vol
      have hbig : ∀ y ∈ s.sl i, y.1 ≤ 1048576 := fun y hy => by have := (hoi.mem_le hy).1; omega
      have hOB : OkB (s.sl i) := fun y hy => by
        have h7 := hoi y hy
        have h8 := hbig y hy
        have h9 := (hoi.mem_le hy).2
        omega
      refine ⟨⟨by kernel_rfl, by kernel_rfl⟩, ⟨by kernel_rfl, by kernel_rfl⟩, ⟨by kernel_rfl, by kernel_rfl⟩, ⟨by omega, hOB⟩, ?_⟩
      have hn0 : min a (smL (s.sl i)).1 = min a (volL (s.sl i)) := rfl
      rw [hn0]
      refine loop_ofH { p : FlI // p.Ok (s.sl i) (min a (volL (s.sl i))) ∧ OkL p.acc ∧ smL p.acc = (volL (s.sl i) - volL p.l, heatL (s.sl i) - heatL p.l) } (fun _ => [(2, .ptr 4 0), (1, .ptr 5 0), (0, .yield 6)])
        (fun h p => ⟨[plB s.t { R with lv := R.lv + (smL p.1.acc).1, lh := R.lh + (smL p.1.acc).2 }, .live 66 [.ptr 0 0], .dead, .dead, .live 104 [.vptr 0 0 2 i 0], .live 3 [.int .i64 p.1.n], getB h.blks 6], fam [pipes N room (upN ver i p.1.v)] N (updV (fun i => slV (ver i) (s.sl i)) i (slV p.1.v p.1.l)) []⟩)
        (fun p => p.1.n.toNat) (fun _ => ⟨rfl, by simp only [fam_lenV, go_sem, ↓reduceIte, Nat.reduceAdd, Nat.reduceSub, Nat.reduceMul, Nat.reduceEqDiff, Nat.reduceLT, Nat.reduceLeDiff, Int.reduceToNat, Int.reduceLE, Int.reduceLT, Int.reduceEq, Int.reduceNeg, reduceCtorEq]⟩) ⟨⟨min a (volL (s.sl i)), s.sl i, [], ver i, 0⟩, ⟨by simp, by simp only []; omega, by simp only []; omega, hoi, .inl (by simp; omega), by simp only []; omega, hbig⟩, fun _ h => by simp at h, by simp [smL]⟩ ?_ ?_
      · apply sub_of <;> simp only [upN_id, smL, Int.add_zero, plB, pipes, getV_fL, setV_fL, getV_fI, setV_fI, getV_fP, setV_fP, snocV_fam', fam_lenV, updV_same, updV_upd, upN_same, catS1_eq, catS1_intR, catS1_slL, catS1_frz, piF_0, piF_1, piF_upd, slV, go_sem, ↓reduceIte, Nat.reduceAdd, Nat.reduceSub, Nat.reduceMul, Nat.reduceEqDiff, Nat.reduceLT, Nat.reduceLeDiff, Int.reduceToNat, Int.reduceLE, Int.reduceLT, Int.reduceEq, Int.reduceNeg, reduceCtorEq]
        · exact subV_famI rfl (by simp [subV, subVk]) (fun j _ => by simp only [updV]; split <;> simp_all [subVk]) trivial
        · refine ⟨by simp only [fP]; omega, by simp only [fP]; omega, bd_setL (by simp [bdAs, BdL, Bd, fP, fI]; omega)⟩
        · exact fam_bdL (pipes_bd (by simp only [fP]; omega)) (fun j _ => updV_slV (ver := ver) (sl := s.sl) (v := ver i) (l := s.sl i) j) trivial
      rintro ⟨⟨n, l, acc, v, va⟩, ho, hoa, hsm⟩
      simp only at ho hoa hsm ⊢
      have hll := ho.ok.heat
      have hlv := ho.ok.vol
      by_cases hn : n ≤ 0
      · have hd : decide (0 < n) = false := decide_eq_false (by omega)
        simp only [hd, plB, pipes, upN_upN, getV_fL, setV_fL, getV_fI, setV_fI, getV_fP, setV_fP, snocV_fam', fam_lenV, updV_same, updV_upd, upN_same, catS1_eq, catS1_intR, catS1_slL, catS1_frz, piF_0, piF_1, piF_upd, slV, wN1, hp, ha, hi, hiN, hi0, Int.toNat_natCast, Try.f56, Try.f73, Try.f35, Try.f74, Try.f78, Try.f72, within_eq, isHeat_eq, litres_eq, plus_eq, sum_eq, p56_3, p56_5, p73_1, p73_2, p72_3, p72_4, p78_1, p78_4, go_sem, ↓reduceIte, Nat.reduceAdd, Nat.reduceSub, Nat.reduceMul, Nat.reduceEqDiff, Nat.reduceLT, Nat.reduceLeDiff, Int.reduceToNat, Int.reduceLE, Int.reduceLT, Int.reduceEq, Int.reduceNeg, reduceCtorEq]
        have hn0' : n = 0 := by have := ho.n0; simp only at this; omega
        have hO : leakO (s.sl i) a = (acc, l) := by
          have := ho.eq
          rw [flowM_neg l (by omega)] at this
          simpa [leakO] using this
        have hm : leakM N s R i a = (0, ⟨s.t, upL s.sl i l⟩, { R with lv := R.lv + (smL acc).1, lh := R.lh + (smL acc).2 }) := by
          simp only [leakM, hp, ha, Bool.and_self, if_true, Int.toNat_natCast, hO]
        exact wild_ok (upN ver i v) hm (fun j _ => by rw [← congrFun (updV_up ver s.sl i v l) j]; exact subVk_rfl _)
      · have hd : decide (0 < n) = true := decide_eq_true (by omega)
        cases l with
        | nil => have := ho.n1; simp only [volL_nil] at this; omega
        | cons y l =>
          obtain ⟨yv, yh⟩ := y
          have hy := ho.ok.cons.1
          have hyb := ho.big _ (List.mem_cons_self ..)
          have hyh := ho.heat
          have hlh := ho.ok.cons.2.heat
          have hlv2 := ho.ok.cons.2.vol
          rw [heatL_cons] at hyh hll
          rw [volL_cons] at hlv
          rw [heatL_cons, volL_cons] at hsm
          have hlen := ho.len
          simp only [List.length_cons] at hy hyb hyh hlen hll hlv hsm
          have hac := hoa.vol
          have hah := hoa.heat
          have hac' : (acc.length : Int) ≤ (smL acc).1 := hac
          have hah' : 0 ≤ (smL acc).2 := hah
          rw [hsm] at hac' hah'
          simp only at hac' hah'
          have hs1 : (smL acc).1 = volL (s.sl i) - (yv + volL l) := by rw [hsm]
          have hs2 : (smL acc).2 = heatL (s.sl i) - (yh + heatL l) := by rw [hsm]
          have hnb : n ≤ 20000000 := by
            have q1 := vol_big ho.big
            have q2 := ho.n1
            simp only [List.length_cons] at q1 q2
            omega
          by_cases hyn : yv ≤ n
          · have hm : min n yv = yv := by omega
            have hd2 : decide (yv < yv) = false := decide_eq_false (by omega)
            have w0 : IntKind.i64.wrap 0 = 0 := by decide
            simp only [hd, hm, hd2, w0, Int.sub_self, slI_c0, slI_c1, List.length_cons, plB, pipes, upN_upN, getV_fL, setV_fL, getV_fI, setV_fI, getV_fP, setV_fP, snocV_fam', fam_lenV, updV_same, updV_upd, upN_same, catS1_eq, catS1_intR, catS1_slL, catS1_frz, piF_0, piF_1, piF_upd, slV, wN1, hp, ha, hi, hiN, hi0, Int.toNat_natCast, Try.f56, Try.f73, Try.f35, Try.f74, Try.f78, Try.f72, within_eq, isHeat_eq, litres_eq, plus_eq, sum_eq, p56_3, p56_5, p73_1, p73_2, p72_3, p72_4, p78_1, p78_4, go_sem, ↓reduceIte, Nat.reduceAdd, Nat.reduceSub, Nat.reduceMul, Nat.reduceEqDiff, Nat.reduceLT, Nat.reduceLeDiff, Int.reduceToNat, Int.reduceLE, Int.reduceLT, Int.reduceEq, Int.reduceNeg, reduceCtorEq]
            (repeat' refine And.intro ?_ ?_)
            all_goals first | omega | (show planOk _ _ = true; kernel_rfl) | (show keepOk _ _ = true; kernel_rfl) | skip
            all_goals
              have hsn := smL_snoc acc (yv, yh)
              refine ⟨⟨⟨n - yv, l, acc ++ [(yv, yh)], v + 1, va⟩, ho.pop (by omega) hyn, hoa.app (fun z hz => by simp only [List.mem_singleton] at hz; subst hz; exact hy), by rw [hsn, hsm]; simp only [plS, Prod.mk.injEq]; omega⟩, by simp only []; omega, ?_⟩
              apply sub_of <;> simp only [wrap_id (x := n - yv) (by omega) (by omega), hsn, plS, plB, pipes, getV_fL, setV_fL, getV_fI, setV_fI, getV_fP, setV_fP, snocV_fam', fam_lenV, updV_same, updV_upd, upN_same, catS1_eq, catS1_intR, catS1_slL, catS1_frz, piF_0, piF_1, piF_upd, slV, go_sem, ↓reduceIte, Nat.reduceAdd, Nat.reduceSub, Nat.reduceMul, Nat.reduceEqDiff, Nat.reduceLT, Nat.reduceLeDiff, Int.reduceToNat, Int.reduceLE, Int.reduceLT, Int.reduceEq, Int.reduceNeg, reduceCtorEq]
              · constructor <;> congr 1 <;> omega
              · exact subV_famI rfl (by simp [subV, subVk]) (updV_sub (by rw [updV_same]; exact pop_sub (by omega)) (fun j hj hne => by rw [updV_ne hne]; exact subVk_rfl _)) trivial
              · refine ⟨by simp only [fP]; omega, by simp only [fP]; omega, bd_setL (by simp [bdAs, BdL, Bd, fP, fI]; omega)⟩
              · exact fam_bdL (pipes_bd (by simp only [fP]; omega)) (fun j _ => updV_slV (ver := ver) (sl := s.sl) (v := v + 1) (l := l) j) trivial
          · have hm : min n yv = n := by omega
            have hd2 : decide (n < yv) = true := decide_eq_true (by omega)
            have w1 : IntKind.i64.wrap (yv - n) = yv - n := wrap_id (by omega) (by omega)
            have hd3 : decide (yv - n = 0) = false := decide_eq_false (by omega)
            simp only [hd, hm, hd2, w1, hd3, slI_c0, slI_c1, List.length_cons, plB, pipes, upN_upN, getV_fL, setV_fL, getV_fI, setV_fI, getV_fP, setV_fP, snocV_fam', fam_lenV, updV_same, updV_upd, upN_same, catS1_eq, catS1_intR, catS1_slL, catS1_frz, piF_0, piF_1, piF_upd, slV, wN1, hp, ha, hi, hiN, hi0, Int.toNat_natCast, Try.f56, Try.f73, Try.f35, Try.f74, Try.f78, Try.f72, within_eq, isHeat_eq, litres_eq, plus_eq, sum_eq, p56_3, p56_5, p73_1, p73_2, p72_3, p72_4, p78_1, p78_4, go_sem, ↓reduceIte, Nat.reduceAdd, Nat.reduceSub, Nat.reduceMul, Nat.reduceEqDiff, Nat.reduceLT, Nat.reduceLeDiff, Int.reduceToNat, Int.reduceLE, Int.reduceLT, Int.reduceEq, Int.reduceNeg, reduceCtorEq]
            have hlt : n < yv := by omega
            have hb := mul_bd (h := yh) (n := n) ⟨by omega, by omega⟩ ⟨by omega, by omega⟩
            have ht' := tkS_bd (x := (yv, yh)) (n := n) (by omega) hy.2 hlt
            have hc := ho.cut (v' := v) (va' := va) (by omega) hlt
            rw [tkS_lt hlt] at ht' hc
            simp only [mnS] at ht' hc
            have w2 : IntKind.i64.wrap (yh * n) = yh * n := wrap_id (by omega) (by omega)
            have w3 : IntKind.i64.wrap ((yh * n).tdiv yv) = (yh * n).tdiv yv := wrap_id (by omega) (by omega)
            have w4 : IntKind.i64.wrap (yh - (yh * n).tdiv yv) = yh - (yh * n).tdiv yv := wrap_id (by omega) (by omega)
            have w5 : IntKind.i64.wrap (n - n) = 0 := by rw [Int.sub_self]; decide
            rw [w2, w3]
            (repeat' refine And.intro ?_ ?_)
            all_goals first | omega | (show planOk _ _ = true; kernel_rfl) | (show keepOk _ _ = true; kernel_rfl) | skip
            all_goals
              have hsn := smL_snoc acc (n, (yh * n).tdiv yv)
              refine ⟨⟨⟨0, (yv - n, yh - (yh * n).tdiv yv) :: l, acc ++ [(n, (yh * n).tdiv yv)], v, va⟩, hc, hoa.app (fun z hz => by simp only [List.mem_singleton] at hz; subst hz; simp only []; omega), by rw [hsn, hsm]; simp only [plS, volL_cons, heatL_cons, Prod.mk.injEq]; omega⟩, by simp only []; omega, ?_⟩
              apply sub_of <;> simp only [w2, w3, w4, w5, hsn, plS, plB, pipes, getV_fL, setV_fL, getV_fI, setV_fI, getV_fP, setV_fP, snocV_fam', fam_lenV, updV_same, updV_upd, upN_same, catS1_eq, catS1_intR, catS1_slL, catS1_frz, piF_0, piF_1, piF_upd, slV, go_sem, ↓reduceIte, Nat.reduceAdd, Nat.reduceSub, Nat.reduceMul, Nat.reduceEqDiff, Nat.reduceLT, Nat.reduceLeDiff, Int.reduceToNat, Int.reduceLE, Int.reduceLT, Int.reduceEq, Int.reduceNeg, reduceCtorEq]
              · constructor <;> congr 1 <;> omega
              · exact subV_famI rfl (by simp [subV, subVk]) (updV_sub (by rw [updV_same]; exact cut_sub rfl rfl) (fun j hj hne => by rw [updV_ne hne]; exact subVk_rfl _)) trivial
              · refine ⟨by simp only [fP]; omega, by simp only [fP]; omega, bd_setL (by simp [bdAs, BdL, Bd, fP, fI]; omega)⟩
              · exact fam_bdL (pipes_bd (by simp only [fP]; omega)) (fun j _ => updV_slV (ver := ver) (sl := s.sl) (v := v) (l := (yv - n, yh - (yh * n).tdiv yv) :: l) j) trivial
end Go.Eng
end

/- brine: what events do, in memory: warm. -/
section
namespace Go.Eng
open Go Go.RowKit Go.Proofs
set_option maxRecDepth 100000
set_option maxHeartbeats 4000000
attribute [local irreducible] OwnT DefS
/-- Slugs of which the first j have got their share. -/
def wI (l : List Sl) (h : Int) (j k c : Nat) : Int := if c = 1 ∧ k < j then slI l k 1 + wN l h k else slI l k c
theorem wI_0 (l : List Sl) (h : Int) (k c : Nat) : wI l h 0 k c = slI l k c := by simp [wI]
theorem wI_j0 (l : List Sl) (h : Int) (j k : Nat) : wI l h j k 0 = slI l k 0 := by simp [wI]
theorem wI_j1 (l : List Sl) (h : Int) (j : Nat) : wI l h j j 1 = slI l j 1 := by simp [wI]
def wV (v : Nat) (l : List Sl) (h : Int) (j : Nat) : Vc := .live v 23 2 l.length (fun k c => .int .i64 (wI l h j k c))
theorem wV_bd {v : Nat} {l : List Sl} {h : Int} {j L M : Nat} : bdV L M [wV v l h j] := ⟨fun _ _ _ _ => trivial, trivial⟩
theorem wV_step {v : Nat} {l : List Sl} {h : Int} {j : Nat} : subVk (.live v 23 2 l.length (updF (fun k c => .int .i64 (wI l h j k c)) j 1 1 [.int .i64 (slI l j 1 + wN l h j)])) (wV v l h (j + 1)) :=
  ⟨rfl, rfl, rfl, rfl, fun k c hk hc => by
    have hc' : c = 0 ∨ c = 1 := by omega
    simp only [updF]
    rcases hc' with rfl | rfl
    · rw [if_neg (by omega)]; simp [wI]
    · by_cases e : k = j
      · subst e
        rw [if_pos ⟨rfl, by omega, by omega⟩]
        simp [wI, nth]
      · rw [if_neg (by omega)]
        have e2 : (k < j + 1) = (k < j) := by apply propext; omega
        simp only [wI, e2]⟩
theorem slI_warm {l : List Sl} {h : Int} {k c : Nat} (hk : k < l.length) (hc : c < 2) : slI (warmL l h) k c = if c = 1 then slI l k 1 + (if k + 1 < l.length then wN l h k else h - smN (wN l h) (l.length - 1)) else slI l k 0 := by
  have hc' : c = 0 ∨ c = 1 := by omega
  have := warmL_get (h := h) hk
  rcases hc' with rfl | rfl <;> simp only [slI, List.getD_eq_getElem?_getD, this, Option.getD_some] <;> simp
theorem wV_last {v m : Nat} {l : List Sl} {h : Int} (hl : l.length = m + 1) : subVk (.live v 23 2 l.length (updF (fun k c => .int .i64 (wI l h m k c)) m 1 1 [.int .i64 (slI l m 1 + (h - smN (wN l h) m))])) (slV v (warmL l h)) :=
  ⟨rfl, rfl, rfl, (warmL_len l h).symm, fun k c hk hc => by
    rw [warmL_len] at hk
    have hc' : c = 0 ∨ c = 1 := by omega
    have e := slI_warm (h := h) hk hc
    simp only [updF, e]
    rcases hc' with rfl | rfl
    · rw [if_neg (by omega)]; simp [wI]
    · by_cases e : k = m
      · subst e
        rw [if_pos ⟨rfl, by omega, by omega⟩]
        simp only [nth, Nat.sub_self, if_true]
        rw [if_neg (by omega), hl, Nat.add_sub_cancel]
      · rw [if_neg (by omega)]
        simp only [wI, if_true]
        rw [if_pos ⟨trivial, by omega⟩, if_pos (by omega)]⟩
theorem warm_calls {N : Nat} {room : Nat → Int} (hN : N ≤ 1000) (hroom : ∀ i, i < N → 0 ≤ room i ∧ room i ≤ 1048576) {s : TkP} {R : Rst} {H : Int} (hok : POk N room s R H) (hH : H ≤ 4398046511104) (ver : Nat → Nat) (k p a q : Int) :
    CallsS Try.prog 55 [.ptr 0 0, .agg [.int .i64 k, .int .i64 p, .int .i64 a, .int .i64 q]] (heapS N room s ver R) (Wild N room (DoK (warmM N s R p q) s R)) := by
  refine calls_of_run (C := cx [71] [] [(36, withinBase), (49, isHeatBase), (69, litresBase), (41, plusBase), (42, sumBase)] [(55, 4, p55_4), (55, 8, p55_8), (55, 13, p55_13), (73, 1, p73_1), (73, 2, p73_2)] none) (cx_ok trivial ⟨within_base, isHeat_base, litres_base, plus_base, sum_base, trivial⟩) rfl (g := 55) (fn := Try.f55) (fn_55) rfl 1000 ?_
  have ht := hok.ok.t
  have hth := hok.ok.heat_nonneg
  have hok' := hok
  obtain ⟨p1, p2, pz, p3, p4, p5, p6, p7, p8, p9, p10, p11, p12, p13⟩ := hok
  unfold TkP.heat at p3
  have wN1 : IntKind.i64.wrap ((N : Int) - 1) = (N : Int) - 1 := wrap_id (by omega) (by omega)
  cases hp : in3 p 0 ((N : Int) - 1) with
  | false =>
    have hm : warmM N s R p q = (1, s, R) := by simp [warmM, hp]
    rw [hm]
    simp only [heapS, plB, pipes, getV_fL, setV_fL, getV_fI, setV_fI, getV_fP, setV_fP, snocV_fam', fam_lenV, updV_same, updV_upd, upN_same, catS1_eq, catS1_intR, catS1_slL, catS1_frz, piF_0, piF_1, piF_upd, slV, wN1, hp, Try.f55, Try.f73, Try.f35, within_eq, isHeat_eq, litres_eq, plus_eq, sum_eq, p55_4, p55_8, p55_13, p73_1, p73_2, go_sem, ↓reduceIte, Nat.reduceAdd, Nat.reduceSub, Nat.reduceMul, Nat.reduceEqDiff, Nat.reduceLT, Nat.reduceLeDiff, Int.reduceToNat, Int.reduceLE, Int.reduceLT, Int.reduceEq, Int.reduceNeg, reduceCtorEq]
    exact ⟨⟨by kernel_rfl, by kernel_rfl⟩, wild_er (e := 1) (by decide) ver rfl (fun _ _ => subVk_rfl _)⟩
  | true =>
    obtain ⟨hp1, hp2⟩ := in3_iff.1 hp
    obtain ⟨i, rfl⟩ : ∃ i : Nat, p = (i : Int) := ⟨p.toNat, by omega⟩
    have hi : i < N := by omega
    have hiN : (i : Int) < (N : Int) := by omega
    have hi0 : (0 : Int) ≤ (i : Int) := by omega
    cases hq : in3 q 0 4294967296 with
    | false =>
      have hm : warmM N s R i q = (1, s, R) := by simp [warmM, hq]
      rw [hm]
      simp only [heapS, plB, pipes, getV_fL, setV_fL, getV_fI, setV_fI, getV_fP, setV_fP, snocV_fam', fam_lenV, updV_same, updV_upd, upN_same, catS1_eq, catS1_intR, catS1_slL, catS1_frz, piF_0, piF_1, piF_upd, slV, wN1, hp, hq, hi, hiN, hi0, Int.toNat_natCast, Try.f55, Try.f73, Try.f35, within_eq, isHeat_eq, litres_eq, plus_eq, sum_eq, p55_4, p55_8, p55_13, p73_1, p73_2, go_sem, ↓reduceIte, Nat.reduceAdd, Nat.reduceSub, Nat.reduceMul, Nat.reduceEqDiff, Nat.reduceLT, Nat.reduceLeDiff, Int.reduceToNat, Int.reduceLE, Int.reduceLT, Int.reduceEq, Int.reduceNeg, reduceCtorEq]
      exact ⟨⟨by kernel_rfl, by kernel_rfl⟩, ⟨by kernel_rfl, by kernel_rfl⟩, wild_er (e := 1) (by decide) ver rfl (fun _ _ => subVk_rfl _)⟩
    | true =>
      obtain ⟨hq1, hq2⟩ := in3_iff.1 hq
      have hoi := p1.ok i hi
      have hri := p1.room i hi
      have hli := p1.len i hi
      have hro := hroom i hi
      have hle := smN_le (f := fun i => heatL (s.sl i)) N i hi (fun j hj => (p1.ok j hj).heat)
      have hvn := hoi.vol
      have hhn := hoi.heat
      have hbig : ∀ y ∈ s.sl i, y.1 ≤ 1048576 := fun y hy => by have := (hoi.mem_le hy).1; omega
      have hOB : OkB (s.sl i) := fun y hy => by
        have h7 := hoi y hy
        have h8 := hbig y hy
        have h9 := (hoi.mem_le hy).2
        omega
      by_cases hl0 : (s.sl i).length = 0
      · have hm : warmM N s R i q = (6, s, R) := by simp only [warmM, hp, hq, Bool.and_self, if_true, Int.toNat_natCast, if_pos hl0]
        rw [hm]
        have hd : decide (0 < ((s.sl i).length : Int)) = false := decide_eq_false (by omega)
        simp only [heapS, plB, pipes, getV_fL, setV_fL, getV_fI, setV_fI, getV_fP, setV_fP, snocV_fam', fam_lenV, updV_same, updV_upd, upN_same, catS1_eq, catS1_intR, catS1_slL, catS1_frz, piF_0, piF_1, piF_upd, slV, slL_slI, wN1, hp, hq, hd, hi, hiN, hi0, Int.toNat_natCast, Try.f55, Try.f73, Try.f35, within_eq, isHeat_eq, litres_eq, plus_eq, sum_eq, p55_4, p55_8, p55_13, p73_1, p73_2, go_sem, ↓reduceIte, Nat.reduceAdd, Nat.reduceSub, Nat.reduceMul, Nat.reduceEqDiff, Nat.reduceLT, Nat.reduceLeDiff, Int.reduceToNat, Int.reduceLE, Int.reduceLT, Int.reduceEq, Int.reduceNeg, reduceCtorEq]
        exact ⟨⟨by kernel_rfl, by kernel_rfl⟩, ⟨by kernel_rfl, by kernel_rfl⟩, wild_er (e := 6) (by decide) ver rfl (fun _ _ => subVk_rfl _)⟩
      · have hd : decide (0 < ((s.sl i).length : Int)) = true := decide_eq_true (by omega)
        obtain ⟨m, hm1⟩ : ∃ m, (s.sl i).length = m + 1 := ⟨(s.sl i).length - 1, by omega⟩
        have wl : IntKind.i64.wrap (((s.sl i).length : Int) - 1) = (m : Int) := by rw [wrap_id (by omega) (by omega)]; omega
        simp only [heapS, plB, pipes, getV_fL, setV_fL, getV_fI, setV_fI, getV_fP, setV_fP, snocV_fam', fam_lenV, updV_same, updV_upd, upN_same, catS1_eq, catS1_intR, catS1_slL, catS1_frz, piF_0, piF_1, piF_upd, slV, slL_slI, wN1, hp, hq, hd, wl, hi, hiN, hi0, Int.toNat_natCast, Try.f55, Try.f73, Try.f35, within_eq, isHeat_eq, litres_eq, plus_eq, sum_eq, p55_4, p55_8, p55_13, p73_1, p73_2, go_sem, ↓reduceIte, Nat.reduceAdd, Nat.reduceSub, Nat.reduceMul, Nat.reduceEqDiff, Nat.reduceLT, Nat.reduceLeDiff, Int.reduceToNat, Int.reduceLE, Int.reduceLT, Int.reduceEq, Int.reduceNeg, reduceCtorEq]
        refine ⟨⟨by kernel_rfl, by kernel_rfl⟩, ⟨by kernel_rfl, by kernel_rfl⟩, ⟨by kernel_rfl, by kernel_rfl⟩, ⟨by omega, hOB⟩, ?_⟩
        have hv1 := hoi.pos hl0
        have hva : (smL (s.sl i)).1 = volL (s.sl i) := rfl
        rw [hva]
        refine loop_ofH { j : Nat // j ≤ m } (fun j => [(39, .int .i64 (j.1 : Int)), (38, .int .i64 (m : Int)), (7, .int .i64 (m : Int)), (6, .int .i64 (q - smN (wN (s.sl i) q) j.1)), (5, .int .i64 (volL (s.sl i))), (4, .vptr 0 0 2 i 0), (3, .ptr 1 0), (0, .ptr 0 0)])
          (fun _ j => ⟨[plB s.t R, .live 39 [.int .i64 k, .int .i64 (i : Int), .int .i64 a, .int .i64 q], .dead], fam [pipes N room ver] N (updV (fun i => slV (ver i) (s.sl i)) i (wV (ver i) (s.sl i) q j.1)) []⟩)
          (fun j => m - j.1) (fun _ => ⟨rfl, by simp only [fam_lenV, go_sem, ↓reduceIte, Nat.reduceAdd, Nat.reduceSub, Nat.reduceMul, Nat.reduceEqDiff, Nat.reduceLT, Nat.reduceLeDiff, Int.reduceToNat, Int.reduceLE, Int.reduceLT, Int.reduceEq, Int.reduceNeg, reduceCtorEq]⟩) ⟨0, by omega⟩ ?_ ?_
        · apply sub_of <;> simp only [smN, Int.sub_zero, plB, pipes, getV_fL, setV_fL, getV_fI, setV_fI, getV_fP, setV_fP, snocV_fam', fam_lenV, updV_same, updV_upd, upN_same, catS1_eq, catS1_intR, catS1_slL, catS1_frz, piF_0, piF_1, piF_upd, slV, go_sem, ↓reduceIte, Nat.reduceAdd, Nat.reduceSub, Nat.reduceMul, Nat.reduceEqDiff, Nat.reduceLT, Nat.reduceLeDiff, Int.reduceToNat, Int.reduceLE, Int.reduceLT, Int.reduceEq, Int.reduceNeg, reduceCtorEq]
          · rfl
          · exact subV_famI rfl (by simp [subV, subVk]) (fun j _ => by simp only [updV]; split <;> simp_all [subVk, wV, wI_0]) trivial
          · simp only [fP]; omega
          · simp only [fP]; omega
          · exact bdV_famI (pipes_bd (by simp only [fP]; omega)) (fun j _ => by simp only [updV]; split; exact wV_bd; exact slV_bd) trivial
        rintro ⟨j, hj⟩
        simp only
        by_cases hjm : j < m
        · have hd2 : decide ((j : Int) < (m : Int)) = true := decide_eq_true (by omega)
          have hjl : (j : Int) < ((s.sl i).length : Int) := by omega
          have hjl2 : j < (s.sl i).length := by omega
          have hj0 : (0 : Int) ≤ (j : Int) := by omega
          have ha := hoi.upto hjl2
          have hb := mul_bd (h := q) (n := slI (s.sl i) j 0) ⟨by omega, by omega⟩ ⟨by omega, by omega⟩
          have hw := wN_le hoi hq1 (show j + 1 ≤ (s.sl i).length by omega) hl0
          have hw0 := wN_le hoi hq1 (show j ≤ (s.sl i).length by omega) hl0
          have hwj := (wN_sum hoi hq1 (s.sl i).length (Nat.le_refl _)).1 j hjl2
          simp only [smN] at hw
          have e1 : IntKind.i64.wrap (q * slI (s.sl i) j 0) = q * slI (s.sl i) j 0 := wrap_id (by omega) (by omega)
          have e2 : (q * slI (s.sl i) j 0).tdiv (volL (s.sl i)) = wN (s.sl i) q j := rfl
          have e3 : IntKind.i64.wrap (wN (s.sl i) q j) = wN (s.sl i) q j := wrap_id (by omega) (by omega)
          have e4 : IntKind.i64.wrap (slI (s.sl i) j 1 + wN (s.sl i) q j) = slI (s.sl i) j 1 + wN (s.sl i) q j := wrap_id (by omega) (by omega)
          have e5 : IntKind.i64.wrap (q - smN (wN (s.sl i) q) j - wN (s.sl i) q j) = q - smN (wN (s.sl i) q) (j + 1) := by simp only [smN]; rw [wrap_id (by omega) (by omega)]; omega
          have e6 : IntKind.i64.wrap ((j : Int) + 1) = ((j + 1 : Nat) : Int) := wrap_s (n := 1000) (by omega) (by omega)
          simp only [hd2, hjl, hjl2, hj0, wI_j0, wI_j1, e1, e2, e3, e4, e5, e6, wV, plB, pipes, getV_fL, setV_fL, getV_fI, setV_fI, getV_fP, setV_fP, snocV_fam', fam_lenV, updV_same, updV_upd, upN_same, catS1_eq, catS1_intR, catS1_slL, catS1_frz, piF_0, piF_1, piF_upd, slV, slL_slI, wN1, hp, hq, hi, hiN, hi0, Int.toNat_natCast, Try.f55, Try.f73, Try.f35, within_eq, isHeat_eq, litres_eq, plus_eq, sum_eq, p55_4, p55_8, p55_13, p73_1, p73_2, go_sem, ↓reduceIte, Nat.reduceAdd, Nat.reduceSub, Nat.reduceMul, Nat.reduceEqDiff, Nat.reduceLT, Nat.reduceLeDiff, Int.reduceToNat, Int.reduceLE, Int.reduceLT, Int.reduceEq, Int.reduceNeg, reduceCtorEq]
          refine ⟨⟨by kernel_rfl, by kernel_rfl⟩, by omega, ⟨j + 1, by omega⟩, by simp only []; omega, ?_⟩
          apply sub_of <;> simp only [wV, plB, pipes, getV_fL, setV_fL, getV_fI, setV_fI, getV_fP, setV_fP, snocV_fam', fam_lenV, updV_same, updV_upd, upN_same, catS1_eq, catS1_intR, catS1_slL, catS1_frz, piF_0, piF_1, piF_upd, slV, go_sem, ↓reduceIte, Nat.reduceAdd, Nat.reduceSub, Nat.reduceMul, Nat.reduceEqDiff, Nat.reduceLT, Nat.reduceLeDiff, Int.reduceToNat, Int.reduceLE, Int.reduceLT, Int.reduceEq, Int.reduceNeg, reduceCtorEq]
          · exact subV_famI rfl (by simp [subV, subVk]) (updV_sub (by rw [updV_same]; exact wV_step) (fun j hj hne => by rw [updV_ne hne]; exact subVk_rfl _)) trivial
          · simp only [fP]; omega
          · simp only [fP]; omega
          · exact bdV_famI (pipes_bd (by simp only [fP]; omega)) (fun j _ => by simp only [updV]; split; exact wV_bd; exact slV_bd) trivial
        · obtain rfl : j = m := by omega
          have hd2 : decide ((j : Int) < (j : Int)) = false := decide_eq_false (by omega)
          have hjl : (j : Int) < ((s.sl i).length : Int) := by omega
          have hjl2 : j < (s.sl i).length := by omega
          have hj0 : (0 : Int) ≤ (j : Int) := by omega
          simp only [hd2, hjl, hjl2, hj0, wI_j0, wI_j1, wV, plB, pipes, getV_fL, setV_fL, getV_fI, setV_fI, getV_fP, setV_fP, snocV_fam', fam_lenV, updV_same, updV_upd, upN_same, catS1_eq, catS1_intR, catS1_slL, catS1_frz, piF_0, piF_1, piF_upd, slV, slL_slI, wN1, hp, hq, hi, hiN, hi0, Int.toNat_natCast, Try.f55, Try.f73, Try.f35, within_eq, isHeat_eq, litres_eq, plus_eq, sum_eq, p55_4, p55_8, p55_13, p73_1, p73_2, go_sem, ↓reduceIte, Nat.reduceAdd, Nat.reduceSub, Nat.reduceMul, Nat.reduceEqDiff, Nat.reduceLT, Nat.reduceLeDiff, Int.reduceToNat, Int.reduceLE, Int.reduceLT, Int.reduceEq, Int.reduceNeg, reduceCtorEq]
          have ha := hoi.upto hjl2
          have hw0 := wN_le hoi hq1 (show j ≤ (s.sl i).length by omega) hl0
          rw [wrap_id (x := R.w + q) (by omega) (by omega), wrap_id (x := slI (s.sl i) j 1 + (q - smN (wN (s.sl i) q) j)) (by omega) (by omega)]
          have hm : warmM N s R i q = (0, ⟨s.t, upL s.sl i (warmL (s.sl i) q)⟩, { R with w := R.w + q }) := by
            simp only [warmM, hp, hq, Bool.and_self, if_true, Int.toNat_natCast, if_neg hl0]
          refine ⟨⟨by kernel_rfl, by kernel_rfl⟩, wild_ok ver hm (updV_sub ?_ (fun j hj hne => by simp only [upL, if_neg hne]; exact subVk_rfl _))⟩
          simp only [upL, if_true]
          exact wV_last hm1
end Go.Eng
end

/- brine: a new plant. -/
section
namespace Go.Eng
open Go Go.RowKit Go.Proofs
set_option maxRecDepth 100000
set_option maxHeartbeats 4000000
attribute [local irreducible] OwnT DefS
def cloneBase : BaseF := fun args => match args with
  | [.row n sz_v f_v] => some ((sz_v = 2 ∧ IntR n 2 f_v) ∧ (n ≤ 1000), .row n 2 (fun i j => .int .i64 ((ivf f_v) i j)))
  | _ => none
theorem clone_eq (n : Nat) (sz_v : Nat) (f_v : Nat → Nat → SV) : cloneBase [.row n sz_v f_v] = some ((sz_v = 2 ∧ IntR n 2 f_v) ∧ (n ≤ 1000), .row n 2 (fun i j => .int .i64 ((ivf f_v) i j))) := rfl
theorem clone_base : BaseO Try.prog 53 23 cloneBase := by
  intro args p v hq hp
  unfold cloneBase at hq
  split at hq
  rotate_left
  · cases hq
  rename_i n sz_v f_v
  cases hq
  obtain ⟨⟨rfl, i_v⟩, pre⟩ := hp
  refine baseO_of (C := cx [] [] [] [] none) (cx_ok trivial trivial) rfl (g := 53) (fn := Try.f53)
    (args' := [.row n 2 (rowF .i64 (ivf f_v))]) (fn_53) rfl 1000 (by
    simp only [BdL, Bd, and_self, and_true, true_and]
    exact (fun i j hi hj => by rw [i_v i j hi hj]; trivial)) ⟨SameD.int i_v, trivial⟩ ?_
  generalize ivf f_v = v at *
  simp only [rowF_eq]
  simp only [Try.f53, go_sem, ↓reduceIte, Nat.reduceAdd, Nat.reduceSub, Nat.reduceMul, Nat.reduceEqDiff, Nat.reduceLT, Nat.reduceLeDiff, Int.reduceToNat, Int.reduceLE, Int.reduceLT, Int.reduceEq, Int.reduceNeg, reduceCtorEq]
  refine ⟨fun e => ⟨e.symm, fun i j hi => by omega⟩, ⟨by omega, by omega⟩, fun i j hi hj => by simp [catF]⟩
def R00 (he hr : Int) : Rst := ⟨he, hr, 0, 0, 0, 0, 0, 0, 0, 0, 0⟩
/-- Pipes of which the first i have slugs of their own. -/
def hpF (A : Nat → Nat → Int) (M : Nat → Nat) (V : Nat → Nat → Nat → Int) (i : Nat) : Nat → Nat → SV := fun a j => if j = 1 ∧ a < i then .vec (fI 1 a) 1 else nestF 1 2 A M V a j
theorem hpF_0 (A : Nat → Nat → Int) (M : Nat → Nat) (V : Nat → Nat → Nat → Int) : hpF A M V 0 = nestF 1 2 A M V := by funext a j; simp [hpF]
theorem hpF_st {A : Nat → Nat → Int} {M : Nat → Nat} {V : Nat → Nat → Nat → Int} {i a j : Nat} (hj : j < 2) :
    hpF A M V (i + 1) a j = updF (hpF A M V i) i 1 1 [.vec (fP 1 i 1) 0] a j ∨ (updF (hpF A M V i) i 1 1 [.vec (fP 1 i 1) 0] a j = .vec (fP 1 i 1) 0 ∧ hpF A M V (i + 1) a j = .vec (fP 1 i 0) (0 + 1)) := by
  by_cases h : a = i ∧ j = 1
  · obtain ⟨rfl, rfl⟩ := h
    right
    exact ⟨by simp [updF, nth], by simp [hpF, fI, fP]⟩
  · left
    simp only [updF, hpF]
    rw [if_neg (show ¬ (a = i ∧ 1 ≤ j ∧ j < 1 + 1) by omega)]
    by_cases h2 : j = 1 ∧ a < i
    · rw [if_pos h2, if_pos (by omega)]
    · rw [if_neg h2, if_neg (by omega)]
theorem hpF_bd {A : Nat → Nat → Int} {M : Nat → Nat} {V : Nat → Nat → Nat → Int} {i n L K : Nat} (hK : i + 1 ≤ K) : bdV L K [.live 0 50 2 n (hpF A M V i)] :=
  ⟨fun a j ha hj => by
    simp only [hpF]
    split
    · simp only [Bd, fI]; omega
    · exact nestF_bd1 _ _ _ _ _ _ _ _ _, trivial⟩
theorem newPlant_calls {n : Nat} (hn : n ≤ 1000) (A : Nat → Nat → Int) (M : Nat → Nat) (V : Nat → Nat → Nat → Int) (hM : ∀ i, i < n → M i ≤ 1000) (tv th he hr : Int) :
    CallsS Try.prog 33 [.agg [.int .i64 tv, .int .i64 th, .row n 2 (nestF 1 2 A M V), .int .i64 he, .int .i64 hr]] ⟨[], []⟩
      (fun o h' => o = .ret (.ptr 1 0) ∧ h' = ⟨[.dead, plB (tv, th) (R00 he hr)], fam [pipes n (fun i => A i 0) (fun _ => 1)] n (fun i => slV 1 (slL (M i) (V i))) []⟩) := by
  refine calls_trim2 (K := fun o h' => o = .ret (.ptr 1 0) ∧ ∃ b B, h' = ⟨b :: plB (tv, th) (R00 he hr) :: B, fam [.live 0 50 2 n (hpF A M V n)] n (fun i => slV 1 (slL (M i) (V i))) []⟩) ?_ ?_
  · refine calls_of_run (C := cx [] [(53, 23, cloneBase)] [] [(33, 3, p33_3), (33, 7, p33_7)] none) (cx_ok ⟨clone_base, trivial⟩ trivial) rfl (g := 33) (fn := Try.f33) (fn_33) rfl 1000 ?_
    simp only [Try.f33, clone_eq, p33_3, p33_7, nestF11_0, nestF11_1, go_sem, ↓reduceIte, Nat.reduceAdd, Nat.reduceSub, Nat.reduceMul, Nat.reduceEqDiff, Nat.reduceLT, Nat.reduceLeDiff, Int.reduceToNat, Int.reduceLE, Int.reduceLT, Int.reduceEq, Int.reduceNeg, reduceCtorEq]
    refine ⟨⟨by omega, by omega, by omega⟩, ⟨by kernel_rfl, by kernel_rfl⟩, ?_⟩
    refine loop_ofG { i : Nat // i ≤ n } (fun i => [(28, .int .i64 (i.1 : Int)), (27, .int .i64 (n : Int)), (26, .row n 2 (nestF 1 2 A M V)), (3, .ptr 1 0)])
      (fun _ i => ⟨[.dead, plB (tv, th) (R00 he hr)], fam [.live 0 50 2 n (hpF A M V i.1)] i.1 (fun a => slV 1 (slL (M a) (V a))) []⟩)
      (fun i => n - i.1) (fun i => ⟨Nat.le_refl _, by simp only [fam_lenV, fP, lenV]; omega⟩) ⟨0, by omega⟩ ?_ ?_
    · apply sub_of <;> simp only [fam_zero, plB, R00, List.append_nil, go_sem, ↓reduceIte, Nat.reduceAdd, Nat.reduceSub, Nat.reduceMul, Nat.reduceEqDiff, Nat.reduceLT, Nat.reduceLeDiff, Int.reduceToNat, Int.reduceLE, Int.reduceLT, Int.reduceEq, Int.reduceNeg, reduceCtorEq]
      · exact ⟨rfl, fun _ _ _ _ => trivial⟩
      · intro a j ha hj
        rw [hpF_0]
        simp [cpF, ha]
      · exact fun _ _ _ _ => nestF_bd1 _ _ _ _ _ _ _ _ _
      · intro a j ha hj
        rw [hpF_0]
        exact nestF_bd1 _ _ _ _ _ _ _ _ _
    rintro ⟨i, hi⟩
    simp only
    by_cases hin : i < n
    · have hd : decide ((i : Int) < (n : Int)) = true := decide_eq_true (by omega)
      have hiN : (i : Int) < (n : Int) := by omega
      have hi0 : (0 : Int) ≤ (i : Int) := by omega
      have hMi := hM i hin
      simp only [hd, hin, hiN, hi0, plB, R00, getV_fL, setV_fL, getV_fI, setV_fI, getV_fP, setV_fP, snocV_fam', fam_lenV, updV_same, updV_upd, upN_same, catS1_eq, catS1_intR, catS1_slL, catS1_frz, piF_0, piF_1, piF_upd, slV, Int.toNat_natCast, Try.f33, clone_eq, p33_3, p33_7, nestF11_0, nestF11_1, go_sem, ↓reduceIte, Nat.reduceAdd, Nat.reduceSub, Nat.reduceMul, Nat.reduceEqDiff, Nat.reduceLT, Nat.reduceLeDiff, Int.reduceToNat, Int.reduceLE, Int.reduceLT, Int.reduceEq, Int.reduceNeg, reduceCtorEq]
      refine ⟨⟨by kernel_rfl, by kernel_rfl⟩, by omega, ⟨i + 1, by omega⟩, by simp only []; omega, ?_⟩
      refine sub_mvV (fP 1 i 0) (fP 1 i 1) 0 (hpF A M V (i + 1)) ((getV_fP rfl).trans rfl) ((getV_fP rfl).trans rfl) ((getV_fL Nat.zero_lt_one).trans rfl) (by simp only [fP]; omega) (by simp only [fP]; omega) (by simp only [fP]; omega) (fun a j _ hj => hpF_st hj) ?_
      apply sub_of <;> simp only [wrap_s hin (show n ≤ 1000000 by omega), plB, R00, getV_fL, setV_fL, getV_fI, setV_fI, getV_fP, setV_fP, snocV_fam', fam_lenV, updV_same, updV_upd, upN_same, catS1_eq, catS1_intR, catS1_slL, catS1_frz, piF_0, piF_1, piF_upd, slV, go_sem, ↓reduceIte, Nat.reduceAdd, Nat.reduceSub, Nat.reduceMul, Nat.reduceEqDiff, Nat.reduceLT, Nat.reduceLeDiff, Int.reduceToNat, Int.reduceLE, Int.reduceLT, Int.reduceEq, Int.reduceNeg, reduceCtorEq]
      · exact fun _ _ _ _ => trivial
      · rw [fam_growV]
        exact subV_famI rfl (by simp [subV, subVk]) (updV_sub ⟨rfl, rfl, rfl, (slL_len _ _).symm, fun k j hk hj => by rw [slL_len] at hk; simp only [slI_slL hk hj]⟩ (fun _ _ _ => subVk_rfl _)) trivial
      · exact fun _ _ _ _ => nestF_bd1 _ _ _ _ _ _ _ _ _
      · simp only [fP]; omega
      · exact bdV_famI (hpF_bd (by simp only [fP]; omega)) (fun _ _ => ⟨fun _ _ _ _ => trivial, trivial⟩) trivial
    · have hd : decide ((i : Int) < (n : Int)) = false := decide_eq_false (by omega)
      obtain rfl : i = n := by omega
      simp only [hd, plB, R00, getV_fL, setV_fL, getV_fI, setV_fI, getV_fP, setV_fP, snocV_fam', fam_lenV, updV_same, updV_upd, upN_same, catS1_eq, catS1_intR, catS1_slL, catS1_frz, piF_0, piF_1, piF_upd, slV, Int.toNat_natCast, Try.f33, clone_eq, p33_3, p33_7, nestF11_0, nestF11_1, go_sem, ↓reduceIte, Nat.reduceAdd, Nat.reduceSub, Nat.reduceMul, Nat.reduceEqDiff, Nat.reduceLT, Nat.reduceLeDiff, Int.reduceToNat, Int.reduceLE, Int.reduceLT, Int.reduceEq, Int.reduceNeg, reduceCtorEq]
      exact ⟨_, _, rfl⟩
  · rintro o h' ⟨rfl, b, B, rfl⟩
    refine ⟨.ptr 1 0, .ptr 1 0, .ret (.ptr 1 0), ⟨[.dead, plB (tv, th) (R00 he hr)], fam [pipes n (fun i => A i 0) (fun _ => 1)] n (fun i => slV 1 (slL (M i) (V i))) []⟩, .inl ⟨rfl, rfl⟩, ⟨rfl, rfl⟩, ⟨⟨rfl, trivial⟩, ⟨trivial, plB_sub⟩, ?_, ⟨by simp [Bd, lenB], trivial⟩, ?_, ?_⟩, ⟨by simp [lenB], by simp [lenB]⟩, by simp [lenV], by simp only [fam_lenV, fP, lenV]; omega⟩
    · refine subV_famI rfl ⟨⟨rfl, rfl, rfl, rfl, fun a j ha hj => ?_⟩, trivial⟩ (fun _ _ => subVk_rfl _) trivial
      have hj' : j = 0 ∨ j = 1 := by omega
      rcases hj' with rfl | rfl
      · simp [hpF, piF, nestF]
      · simp [hpF, piF, ha]
    · simp only [bdB2, true_and]
      exact plB_bd (by simp only [fam_lenV, fP, lenV]; omega)
    · exact bdV_famI (pipes_bd (by simp only [fam_lenV, fP, lenV]; omega)) (fun _ _ => slV_bd) trivial
end Go.Eng
end

/- brine: all events. -/
section
namespace Go.Eng
open Go Go.RowKit Go.Proofs
set_option maxRecDepth 100000
set_option maxHeartbeats 4000000
attribute [local irreducible] OwnT DefS
theorem setB_last : ∀ (l : List Blk) (a b : Blk), setB (snocB l a) (lenB l) b = snocB l b
  | [], _, _ => rfl
  | x :: l, a, b => by simp [setB, snocB, lenB, setB_last l a b]
theorem def32_none (h : HS) (e : Nat) : DefS Try.prog 32 [.ptr e 0] none h (fun p' h' => p' = none ∧ h' = h) := by
  refine defS_of_run (C := cx [] [] [] [] (some [])) (cx_ok trivial trivial) (g := 32) (fn := Try.f32) fn_32 rfl rfl rfl 1000 1000 ?_
  simp only [Try.f32, go_sem, ↓reduceIte, Nat.reduceAdd, Nat.reduceSub, Nat.reduceMul, Nat.reduceEqDiff, Nat.reduceLT, Nat.reduceLeDiff, Int.reduceToNat, Int.reduceLE, Int.reduceLT, Int.reduceEq, Int.reduceNeg, reduceCtorEq]
theorem def32_some (h : HS) (e : Nat) (m k : Int) (he : getB h.blks e = .live 32 [.int .i64 k]) : DefS Try.prog 32 [.ptr e 0] (some (.iface 64 (.agg [.int .i64 m]))) h (fun p' h' => p' = none ∧ h' = { h with blks := setB (snocB h.blks (.live 64 [.int .i64 m])) e (.live 32 [.int .i64 m]) }) := by
  have hlt := getB_lt he
  have ha : ∀ b, getB (snocB h.blks b) (lenB h.blks) = b := fun b => by simp [getB_snoc]
  have hb : ∀ b, getB (snocB h.blks b) e = .live 32 [.int .i64 k] := fun b => by rw [getB_snoc, if_neg (by omega), he]
  refine defS_of_run (C := cx [] [] [] [] (some [])) (cx_ok trivial trivial) (g := 32) (fn := Try.f32) fn_32 rfl rfl rfl 1000 1000 ?_
  simp only [Try.f32, he, ha, hb, setB_last, go_sem, ↓reduceIte, Nat.reduceAdd, Nat.reduceSub, Nat.reduceMul, Nat.reduceEqDiff, Nat.reduceLT, Nat.reduceLeDiff, Int.reduceToNat, Int.reduceLE, Int.reduceLT, Int.reduceEq, Int.reduceNeg, reduceCtorEq]
/-- What events do, one behind the other: the error, how many were done, and the plant. -/
structure PlR where
  e : Int
  n : Nat
  s : TkP
  R : Rst
def plM (N : Nat) (room : Nat → Int) (s : TkP) (R : Rst) (x : Nat → Nat → Int) : Nat → PlR
  | 0 => ⟨0, 0, s, R⟩
  | j + 1 => if (plM N room s R x j).e = 0 then
      if (doM N room (plM N room s R x j).s (plM N room s R x j).R (x j 0) (x j 1) (x j 2) (x j 3)).1 = 0 then ⟨0, j + 1, (doM N room (plM N room s R x j).s (plM N room s R x j).R (x j 0) (x j 1) (x j 2) (x j 3)).2.1, (doM N room (plM N room s R x j).s (plM N room s R x j).R (x j 0) (x j 1) (x j 2) (x j 3)).2.2⟩
      else ⟨(doM N room (plM N room s R x j).s (plM N room s R x j).R (x j 0) (x j 1) (x j 2) (x j 3)).1, j, (plM N room s R x j).s, (plM N room s R x j).R⟩
    else plM N room s R x j
def brS (tv th : Int) (p : SV) (he hr : Int) : SV := .agg [.int .i64 tv, .int .i64 th, p, .int .i64 he, .int .i64 hr]
def smS (R : Rst) : SV := .agg [.int .i64 R.w, .int .i64 R.lv, .int .i64 R.lh, .int .i64 R.fv, .int .i64 R.fh, .int .i64 R.ch, .int .i64 R.ai, .int .i64 R.us, .int .i64 R.bo]
/-- The first state of a plant. -/
def s00 (tv th : Int) (M : Nat → Nat) (V : Nat → Nat → Nat → Int) : TkP := ⟨(tv, th), fun i => slL (M i) (V i)⟩
/-- Play's error, index and plant. -/
def plA (tv th : Int) (n : Nat) (A : Nat → Nat → Int) (M : Nat → Nat) (V : Nat → Nat → Nat → Int) (he hr : Int) (m : Nat) (x : Nat → Nat → Int) : PlR :=
  if okBr tv th n A M V he hr then if 256 < m then ⟨3, 0, s00 tv th M V, R00 he hr⟩ else plM n (fun i => A i 0) (s00 tv th M V) (R00 he hr) x m else ⟨1, 0, s00 tv th M V, R00 he hr⟩
def pipes2 (N : Nat) (room : Nat → Int) (ver : Nat → Nat) : Vc := .live 0 50 2 N (piF 2 room ver)
/-- The plant behind five other blocks and one other slice. -/
def plB1 (t : Sl) (R : Rst) : Blk := .live 74 [.int .i64 t.1, .int .i64 t.2, .vec 1 0, .int .i64 R.he, .int .i64 R.hr, .int .i64 R.w, .int .i64 R.lv, .int .i64 R.lh, .int .i64 R.fv, .int .i64 R.fh, .int .i64 R.ch, .int .i64 R.ai, .int .i64 R.us, .int .i64 R.bo]
theorem plB_ren (p : Nat) (t : Sl) (R : Rst) : renK (fun n => n + p) (fun n => n + 1) (plB t R) = plB1 t R := by simp [plB, plB1, renK, renL, renS]
theorem pipes_ren (p N : Nat) (room : Nat → Int) (ver : Nat → Nat) : renC (fun n => n + p) (fun n => n + 1) (pipes N room ver) = pipes2 N room ver := by
  simp only [pipes, pipes2, renC]
  congr 1
  funext i j
  simp only [piF]
  split
  · rfl
  · split
    · simp only [renS, fI]; congr 1; omega
    · rfl
theorem slV_ren (p v : Nat) (l : List Sl) : renC (fun n => n + p) (fun n => n + 1) (slV v l) = slV v l := by simp [slV, renC, renS]
theorem appV_nil (b v : Nat → Nat) : ∀ k : List Vc, appV b v [] k = k.map (renC b v)
  | [] => by simp [appV]
  | x :: k => by simp [appV, appV_nil b v k]
theorem appB_nil' (b v : Nat → Nat) : ∀ k : List Blk, appB b v [] k = k.map (renK b v)
  | [] => by simp [appB]
  | x :: k => by simp [appB, appB_nil' b v k]
theorem heap_ren (p : Nat) (N : Nat) (room : Nat → Int) (s : TkP) (ver : Nat → Nat) (R : Rst) : (heapS N room s ver R).blks.map (renK (fun n => n + p) (fun n => n + 1)) = [plB1 s.t R] ∧ (heapS N room s ver R).vecs.map (renC (fun n => n + p) (fun n => n + 1)) = fam [pipes2 N room ver] N (fun i => slV (ver i) (s.sl i)) [] := by
  refine ⟨by simp [heapS, plB_ren], ?_⟩
  simp only [heapS, fam_map, List.map_cons, List.map_nil, pipes_ren, slV_ren]
/-- A call over the plant, where it lies behind five other blocks and one other slice. -/
theorem calls_plant2 {g : Nat} {ev : SV} {N : Nat} {room : Nat → Int} {s : TkP} {ver : Nat → Nat} {R : Rst} {K : Out → TkP → Rst → Prop} (he : renS (fun n => n + 5) (fun n => n + 1) ev = ev) (hb : ∀ L M, Bd L M ev)
    (hO : ∀ o s' R', K o s' R' → (∃ x, (o = .ret x ∨ o = .pan x) ∧ Bd 1 (N + 1) x ∧ renS (fun n => n + 5) (fun n => n + 1) x = x))
    (hc : CallsS Try.prog g [.ptr 0 0, ev] (heapS N room s ver R) (fun o h' => ∃ s' ver' R', K o s' R' ∧ h' = heapS N room s' ver' R')) (b0 b1 b2 b3 b4 : Blk) (B : List Blk) (z : Vc) (V : List Vc) :
    CallsS Try.prog g [.ptr 5 0, ev] ⟨b0 :: b1 :: b2 :: b3 :: b4 :: plB1 s.t R :: B, fam [z, pipes2 N room ver] N (fun i => slV (ver i) (s.sl i)) V⟩ (fun o h' => ∃ s' ver' R', K o s' R' ∧ h' = ⟨b0 :: b1 :: b2 :: b3 :: b4 :: plB1 s'.t R' :: B, fam [z, pipes2 N room ver'] N (fun i => slV (ver' i) (s'.sl i)) V⟩) := by
  have hM : ∀ (s : TkP) (ver : Nat → Nat) (R : Rst), (heapS N room s ver R).vecs.length = N + 1 := fun s ver R => by simp only [heapS, fam_len, List.length_cons, List.length_nil]; omega
  have hL : ∀ (s : TkP) (ver : Nat → Nat) (R : Rst), (heapS N room s ver R).blks.length = 1 := fun s ver R => rfl
  have := calls_mid 5 1 hc (by rw [hM, hL]; exact ⟨by simp [Bd], hb _ _, trivial⟩) (by rw [hM, hL]; exact plB_bd1 (by omega)) (by rw [hM, hL]; exact heapS_bdV (Nat.le_refl _)) (by
    rintro o h' ⟨s', ver', R', hk, rfl⟩
    obtain ⟨x, hx, hb, hr⟩ := hO _ _ _ hk
    refine ⟨by rw [hL, hL], by rw [hM, hM], by rw [hM, hL]; exact plB_bd1 (by omega), by rw [hM, hL]; exact heapS_bdV (Nat.le_refl _), ?_⟩
    rw [hM, hL]
    rcases hx with rfl | rfl <;> exact hb) [b0, b1, b2, b3, b4] B [z] V rfl rfl
  simp only [renL, he, (heap_ren 5 N room s ver R).1, (heap_ren 5 N room s ver R).2] at this
  have e : ∀ (t : Sl) (R : Rst), [b0, b1, b2, b3, b4] ++ ([plB1 t R] ++ B) = b0 :: b1 :: b2 :: b3 :: b4 :: plB1 t R :: B := fun _ _ => rfl
  have e2 : ∀ (ver : Nat → Nat) (f : Nat → Vc), [z] ++ (fam [pipes2 N room ver] N f [] ++ V) = fam [z, pipes2 N room ver] N f V := fun ver f => fam_app [z] V
  rw [e, e2] at this
  refine calls_mono ?_ this
  rintro o h' ⟨o0, h0', ⟨s', ver', R', hk, rfl⟩, rfl, rfl⟩
  obtain ⟨x, hx, hb, hr⟩ := hO _ _ _ hk
  refine ⟨s', ver', R', ?_, ?_⟩
  · rcases hx with rfl | rfl
    · simp only [renO, hr]; exact hk
    · simp only [renO, hr]; exact hk
  · rw [(heap_ren 5 N room s' ver' R').1, (heap_ren 5 N room s' ver' R').2, e, e2]
theorem okBr_ns {tv th : Int} {n : Nat} {A : Nat → Nat → Int} {M : Nat → Nat} {V : Nat → Nat → Nat → Int} {he hr : Int} : okBr tv th n (nsA (nestF 1 2 A M V)) M V he hr = okBr tv th n A M V he hr := by
  simp only [okBr, nsA_lit _ (show (0 : Nat) ≠ 1 by omega)]
def PlayK (n : Nat) (room : Nat → Int) (r : PlR) (o : Out) (h' : HS) : Prop :=
  (r.e ≠ 0 ∧ ∃ B V, o = .ret (.tup [brS 0 0 (.vec 0 0) 0 0, smS (R00 0 0), .int .i64 (r.n : Int), .int .i64 r.e]) ∧ h' = ⟨B, .live 0 50 2 0 (fun _ _ => .any) :: V⟩) ∨
  (r.e = 0 ∧ ∃ ver z B V, o = .ret (.tup [brS r.s.t.1 r.s.t.2 (.vec 1 0) r.R.he r.R.hr, smS r.R, .int .i64 (r.n : Int), .int .i64 0]) ∧ h' = ⟨B, fam [z, pipes2 n room ver] n (fun i => slV (ver i) (r.s.sl i)) V⟩)
theorem fam_cons (z : Vc) (pre : List Vc) (N : Nat) (f : Nat → Vc) (V : List Vc) : z :: fam pre N f V = fam (z :: pre) N f V := rfl
theorem okL_heat {n : Nat} {v : Nat → Nat → Int} (h : allU (fun i => okS (v i 0) (v i 1)) n = true) : OkL (slL n v) ∧ heatL (slL n v) ≤ 4294967296 * (n : Int) := by
  have hh := allU_iff.1 h
  refine ⟨fun x hx => ?_, ?_⟩
  · obtain ⟨i, hi, rfl⟩ := slL_mem hx
    have := hh i hi
    simp only [okS, Bool.and_eq_true, in3_iff] at this
    exact ⟨this.1.1, this.2.1⟩
  · clear h
    induction n with
    | zero => simp [slL, heatL, smL]
    | succ n ih =>
      have h1 := ih (fun i hi => hh i (by omega))
      have h2 := hh n (by omega)
      simp only [okS, Bool.and_eq_true, in3_iff] at h2
      rw [slL_succ, heatL_app]
      simp only [heatL_cons, heatL_nil]
      omega
theorem okBr_start {tv th : Int} {n : Nat} {A : Nat → Nat → Int} {M : Nat → Nat} {V : Nat → Nat → Nat → Int} {he hr : Int} (h : okBr tv th n A M V he hr = true) :
    POk n (fun i => A i 0) (s00 tv th M V) (R00 he hr) 1099511627776 ∧ (∀ i, i < n → 0 ≤ A i 0 ∧ A i 0 ≤ 1048576) ∧ n ≤ 8 ∧ 1 ≤ n := by
  simp only [okBr, Bool.and_eq_true, Bool.or_eq_true, in3_iff, decide_eq_true_eq, allU_iff] at h
  obtain ⟨⟨h1, h2, h3⟩, ⟨h4, h5⟩, h6, h7⟩ := h
  have hp : ∀ i, i < n → (1 ≤ A i 0 ∧ A i 0 ≤ 1048576) ∧ M i ≤ 16 ∧ allU (fun k => okS (V i k 0) (V i k 1)) (M i) = true ∧ volL (slL (M i) (V i)) ≤ A i 0 := fun i hi => by
    have := h7 i hi
    simp only [okPp, Bool.and_eq_true, in3_iff, decide_eq_true_eq] at this
    exact ⟨this.1, this.2.1, this.2.2.1, this.2.2.2⟩
  have hheat : ∀ k, k ≤ n → 0 ≤ smN (fun i => heatL (slL (M i) (V i))) k ∧ smN (fun i => heatL (slL (M i) (V i))) k ≤ 68719476736 * (k : Int) := fun k => by
    induction k with
    | zero => intro _; simp [smN]
    | succ k ih =>
      intro hk
      have := ih (by omega)
      obtain ⟨q1, q2, q3, q4⟩ := hp k (by omega)
      obtain ⟨r1, r2⟩ := okL_heat q3
      have r3 := r1.heat
      simp only [smN]
      omega
  have hh := hheat n (Nat.le_refl n)
  refine ⟨⟨⟨⟨h1.1, h2.1⟩, fun i hi => (okL_heat (hp i hi).2.2.1).1, fun i hi => (hp i hi).2.2.2, fun i hi => by simp only [s00, slL_len]; exact (hp i hi).2.1⟩, h1.2, ?_, ?_, Int.le_refl _, ⟨h5.1, h5.2, h4.2⟩, ?_, ?_, ?_, ?_, ?_, ?_, ?_, ?_⟩, fun i hi => by have := (hp i hi).1; omega, by omega, by omega⟩
  · simp only [s00]; omega
  · simp only [TkP.heat, s00, R00]; omega
  all_goals simp [R00]
theorem plM_fine {N : Nat} {room : Nat → Int} (hroom : ∀ i, i < N → 0 ≤ room i ∧ room i ≤ 1048576) {s : TkP} {R : Rst} (x : Nat → Nat → Int) {H : Int} (h : POk N room s R H) : ∀ j : Nat, POk N room (plM N room s R x j).s (plM N room s R x j).R (H + 8589934592 * (j : Int)) ∧ ((plM N room s R x j).e = 0 → (plM N room s R x j).n = j)
  | 0 => ⟨by simpa [plM] using h, fun _ => rfl⟩
  | j + 1 => by
    obtain ⟨h1, h2⟩ := plM_fine hroom x h j
    have h3 := (do_fine hroom h1 (x j 0) (x j 1) (x j 2) (x j 3)).1
    simp only [plM]
    split
    · split
      · exact ⟨h3.mono (by omega), fun _ => rfl⟩
      · exact ⟨h1.mono (by omega), fun e => by simp_all⟩
    · exact ⟨h1.mono (by omega), fun e => by simp_all⟩
def stepR (r : Stp) (j : Nat) (P : PlR) : PlR := if r.1 = 0 then ⟨0, j + 1, r.2.1, r.2.2⟩ else ⟨r.1, j, P.s, P.R⟩
theorem plM_s {N : Nat} {room : Nat → Int} {s : TkP} {R : Rst} {x : Nat → Nat → Int} {j : Nat} (h : (plM N room s R x j).e = 0) :
    plM N room s R x (j + 1) = stepR (doM N room (plM N room s R x j).s (plM N room s R x j).R (x j 0) (x j 1) (x j 2) (x j 3)) j (plM N room s R x j) := by
  simp only [plM, if_pos h, stepR]
theorem plM_end {N : Nat} {room : Nat → Int} {s : TkP} {R : Rst} {x : Nat → Nat → Int} {j : Nat} (h : (plM N room s R x j).e ≠ 0) : ∀ k, j ≤ k → plM N room s R x k = plM N room s R x j
  | 0, hk => by obtain rfl : j = 0 := by omega
                rfl
  | k + 1, hk => by
    rcases Nat.lt_or_ge k j with g | g
    · obtain rfl : j = k + 1 := by omega
      rfl
    · have ih := plM_end h k g
      simp only [plM]
      rw [ih, if_neg h]
theorem doM_kind {N : Nat} {room : Nat → Int} {s : TkP} {R : Rst} {k p a q : Int} (hk : in3 k 0 5 = false) : doM N room s R k p a q = (1, s, R) := by
  have hn : ¬ (0 ≤ k ∧ k ≤ 5) := fun h => by rw [in3_iff.2 h] at hk; cases hk
  unfold doM
  rw [if_neg (by omega), if_neg (by omega), if_neg (by omega), if_neg (by omega), if_neg (by omega), if_neg (by omega)]
theorem do_calls {N : Nat} {room : Nat → Int} (hN : N ≤ 1000) (hroom : ∀ i, i < N → 0 ≤ room i ∧ room i ≤ 1048576) {s : TkP} {R : Rst} {H : Int} (hok : POk N room s R H) (hH : H ≤ 4398046511104) (ver : Nat → Nat) (p a q : Int) (g : Nat) (k : Int) (hk : (g = 54 ∧ k = 0) ∨ (g = 55 ∧ k = 1) ∨ (g = 56 ∧ k = 2) ∨ (g = 57 ∧ k = 3) ∨ (g = 58 ∧ k = 4) ∨ (g = 59 ∧ k = 5)) :
    CallsS Try.prog g [.ptr 0 0, .agg [.int .i64 k, .int .i64 p, .int .i64 a, .int .i64 q]] (heapS N room s ver R) (fun o h' => ∃ s' ver' R', DoK (doM N room s R k p a q) s R o s' R' ∧ h' = heapS N room s' ver' R') := by
  refine trim_do ?_
  rcases hk with ⟨rfl, rfl⟩ | ⟨rfl, rfl⟩ | ⟨rfl, rfl⟩ | ⟨rfl, rfl⟩ | ⟨rfl, rfl⟩ | ⟨rfl, rfl⟩
  · exact pump_calls hN hroom hok hH ver 0 p a q
  · exact warm_calls hN hroom hok hH ver 1 p a q
  · exact leak_calls hN hroom hok hH ver 2 p a q
  · exact fill_calls hok hH ver 3 p a q
  · exact chill_calls hok hH ver 4 p a q
  · exact use_calls hok hH ver 5 p a q
theorem play_calls {n : Nat} (hn : n ≤ 1000) (A : Nat → Nat → Int) (M : Nat → Nat) (V : Nat → Nat → Nat → Int) (hM : ∀ i, i < n → M i ≤ 1000) (tv th he hr : Int) {m : Nat} (hm : m ≤ 1000000) (x : Nat → Nat → Int) :
    CallsS Try.prog 14 [brS tv th (.row n 2 (nestF 1 2 A M V)) he hr, .row m 4 (fun i j => .int .i64 (x i j))] ⟨[], []⟩ (PlayK n (fun i => A i 0) (plA tv th n A M V he hr m x)) := by
  refine calls_of_defer (C := cx [33, 54, 55, 56, 57, 58, 59] [] [(31, isBrineBase), (36, withinBase), (51, notPipeBase)] [(14, 2, p14_2), (14, 4, p14_4), (14, 12, p14_12), (14, 15, p14_15)] (some [4, 5, 6, 7])) (cx_ok trivial ⟨isBrine_base, within_base, notPipe_base, trivial⟩) (g := 14) (fn := Try.f14) (fn_14) rfl rfl 1000 1000 ?_
  cases hok : okBr tv th n A M V he hr with
  | false =>
    simp only [brS, hok, okBr_ns, Try.f14, isBrine_eq, nestR_lit, nsM_lit, nsV_lit, within_eq, p14_2, p14_4, p14_12, p14_15, go_sem, ↓reduceIte, Nat.reduceAdd, Nat.reduceSub, Nat.reduceMul, Nat.reduceEqDiff, Nat.reduceLT, Nat.reduceLeDiff, Int.reduceToNat, Int.reduceLE, Int.reduceLT, Int.reduceEq, Int.reduceNeg, reduceCtorEq]
    have hp : plA tv th n A M V he hr m x = ⟨1, 0, s00 tv th M V, R00 he hr⟩ := by simp [plA, hok]
    rw [hp]
    exact ⟨by omega, ⟨by kernel_rfl, by kernel_rfl⟩, .inl ⟨(by decide : (1 : Int) ≠ 0), _, _, rfl, rfl⟩⟩
  | true =>
    by_cases hm2 : 256 < m
    · have hd : decide (256 < (m : Int)) = true := decide_eq_true (by omega)
      simp only [brS, hok, hd, okBr_ns, Try.f14, isBrine_eq, nestR_lit, nsM_lit, nsV_lit, within_eq, p14_2, p14_4, p14_12, p14_15, go_sem, ↓reduceIte, Nat.reduceAdd, Nat.reduceSub, Nat.reduceMul, Nat.reduceEqDiff, Nat.reduceLT, Nat.reduceLeDiff, Int.reduceToNat, Int.reduceLE, Int.reduceLT, Int.reduceEq, Int.reduceNeg, reduceCtorEq]
      have hp : plA tv th n A M V he hr m x = ⟨3, 0, s00 tv th M V, R00 he hr⟩ := by simp [plA, hok, hm2]
      rw [hp]
      exact ⟨by omega, ⟨by kernel_rfl, by kernel_rfl⟩, .inl ⟨(by decide : (3 : Int) ≠ 0), _, _, rfl, rfl⟩⟩
    · have hd : decide (256 < (m : Int)) = false := decide_eq_false (by omega)
      simp only [brS, hok, hd, okBr_ns, Try.f14, isBrine_eq, nestR_lit, nsM_lit, nsV_lit, within_eq, p14_2, p14_4, p14_12, p14_15, go_sem, ↓reduceIte, Nat.reduceAdd, Nat.reduceSub, Nat.reduceMul, Nat.reduceEqDiff, Nat.reduceLT, Nat.reduceLeDiff, Int.reduceToNat, Int.reduceLE, Int.reduceLT, Int.reduceEq, Int.reduceNeg, reduceCtorEq]
      refine ⟨by omega, ?_⟩
      unfold callS
      refine calls_mono ?_ (calls_grow (newPlant_calls hn A M V hM tv th he hr) ?_ ?_ _)
      · rintro o h' ⟨o0, h0', ⟨rfl, rfl⟩, rfl, rfl⟩
        simp only [appB, appV, appB_nil', appV_nil, fam_map, List.map_cons, List.map_nil, plB_ren, pipes_ren, slV_ren, hd, Try.f14, Try.f34, go_sem, ↓reduceIte, Nat.reduceAdd, Nat.reduceSub, Nat.reduceMul, Nat.reduceEqDiff, Nat.reduceLT, Nat.reduceLeDiff, Int.reduceToNat, Int.reduceLE, Int.reduceLT, Int.reduceEq, Int.reduceNeg, reduceCtorEq]
        obtain ⟨hst, hroom, hn8, _⟩ := okBr_start hok
        have hA : plA tv th n A M V he hr m x = plM n (fun i => A i 0) (s00 tv th M V) (R00 he hr) x m := by simp [plA, hok, hm2]
        rw [hA, fam_cons]
        have hfine := plM_fine hroom x hst
        have hstep := fun j => @plM_s n (fun i => A i 0) (s00 tv th M V) (R00 he hr) x j
        have hend := fun j => @plM_end n (fun i => A i 0) (s00 tv th M V) (R00 he hr) x j
        have hP0 : plM n (fun i => A i 0) (s00 tv th M V) (R00 he hr) x 0 = ⟨0, 0, s00 tv th M V, R00 he hr⟩ := rfl
        generalize plM n (fun i => A i 0) (s00 tv th M V) (R00 he hr) x = P at hfine hstep hend hP0 ⊢
        refine loop_ofH { p : Nat × (Nat → Nat) // p.1 ≤ m ∧ (P p.1).e = 0 } (fun p => [(30, .int .i64 (p.1.1 : Int)), (29, .int .i64 (m : Int)), (28, .row m 4 (fun i j => .int .i64 (x i j))), (9, .ptr 7 0), (8, .ptr 5 0), (7, .ptr 3 0), (6, .int .i64 (p.1.1 : Int)), (5, .ptr 2 0), (4, .ptr 1 0)])
          (fun _ p => ⟨[.dead, .live 26 [.int .i64 0, .int .i64 0, .vec 0 0, .int .i64 0, .int .i64 0], .live 31 [.int .i64 0, .int .i64 0, .int .i64 0, .int .i64 0, .int .i64 0, .int .i64 0, .int .i64 0, .int .i64 0, .int .i64 0], .live 32 [.int .i64 0], .dead, plB1 (P p.1.1).s.t (P p.1.1).R, .dead, .live 69 [.func 54 [], .func 55 [], .func 56 [], .func 57 [], .func 58 [], .func 59 []]],
            fam [.live 0 50 2 0 (fun _ _ => .any), pipes2 n (fun i => A i 0) p.1.2] n (fun i => slV (p.1.2 i) ((P p.1.1).s.sl i)) []⟩)
          (fun p => m - p.1.1) (fun _ => ⟨rfl, by simp only [fam_lenV, go_sem, ↓reduceIte, Nat.reduceAdd, Nat.reduceSub, Nat.reduceMul, Nat.reduceEqDiff, Nat.reduceLT, Nat.reduceLeDiff, Int.reduceToNat, Int.reduceLE, Int.reduceLT, Int.reduceEq, Int.reduceNeg, reduceCtorEq]⟩) ⟨(0, fun _ => 1), by simp [hP0]⟩ ?_ ?_
        · apply sub_of <;> simp only [hP0, s00, plB1, pipes2, getV_fL, setV_fL, getV_fI, setV_fI, getV_fP, setV_fP, snocV_fam', fam_lenV, updV_same, updV_upd, upN_same, catS1_eq, catS1_intR, catS1_slL, catS1_frz, piF_0, piF_1, piF_upd, slV, go_sem, ↓reduceIte, Nat.reduceAdd, Nat.reduceSub, Nat.reduceMul, Nat.reduceEqDiff, Nat.reduceLT, Nat.reduceLeDiff, Int.reduceToNat, Int.reduceLE, Int.reduceLT, Int.reduceEq, Int.reduceNeg, reduceCtorEq]
          · exact ⟨rfl, fun _ _ _ _ => trivial, rfl⟩
          · exact subV_famI rfl (by simp [subV, subVk]) (fun _ _ => subVk_rfl _) trivial
          · exact fun _ _ _ _ => trivial
          · simp only [fP]; omega
          · refine bdV_famI ⟨fun i j hi => by omega, fun i j hi hj => ?_, trivial⟩ (fun _ _ => ⟨fun _ _ _ _ => trivial, trivial⟩) trivial
            have : j = 0 ∨ j = 1 := by omega
            rcases this with rfl | rfl
            · trivial
            · show fI 2 i < fP 2 n 0
              simp only [fI, fP]; omega
        rintro ⟨⟨j, ver⟩, hj, hje⟩
        simp only at hj hje ⊢
        obtain ⟨hPj, hnj⟩ := hfine j
        have hnj := hnj hje
        by_cases hjm : j < m
        · have hd2 : decide ((j : Int) < (m : Int)) = true := decide_eq_true (by omega)
          have hiN : (j : Int) < (m : Int) := by omega
          have hi0 : (0 : Int) ≤ (j : Int) := by omega
          have hst1 := hstep j hje
          cases hk : in3 (x j 0) 0 5 with
          | false =>
            simp only [hd2, hk, plB1, pipes2, getV_fL, setV_fL, getV_fI, setV_fI, getV_fP, setV_fP, snocV_fam', fam_lenV, updV_same, updV_upd, upN_same, catS1_eq, catS1_intR, catS1_slL, catS1_frz, piF_0, piF_1, piF_upd, slV, hiN, hi0, Int.toNat_natCast, Try.f14, Try.f35, within_eq, p14_2, p14_4, p14_12, p14_15, go_sem, ↓reduceIte, Nat.reduceAdd, Nat.reduceSub, Nat.reduceMul, Nat.reduceEqDiff, Nat.reduceLT, Nat.reduceLeDiff, Int.reduceToNat, Int.reduceLE, Int.reduceLT, Int.reduceEq, Int.reduceNeg, reduceCtorEq]
            rw [doM_kind hk] at hst1
            have hPm : P m = ⟨1, j, (P j).s, (P j).R⟩ := by
              have e : P (j + 1) = ⟨1, j, (P j).s, (P j).R⟩ := by rw [hst1]; rfl
              rw [hend (j + 1) (by rw [e]; exact (by decide : (1 : Int) ≠ 0)) m (by omega), e]
            refine defS_mono (def32_some _ 3 1 0 rfl) ?_
            rintro p' h' ⟨rfl, rfl⟩
            rw [hPm]
            simp only [Try.f14, go_sem, ↓reduceIte, Nat.reduceAdd, Nat.reduceSub, Nat.reduceMul, Nat.reduceEqDiff, Nat.reduceLT, Nat.reduceLeDiff, Int.reduceToNat, Int.reduceLE, Int.reduceLT, Int.reduceEq, Int.reduceNeg, reduceCtorEq]
            exact .inl ⟨(by decide : (1 : Int) ≠ 0), _, _, rfl, rfl⟩
          | true =>
            obtain ⟨k1, k2⟩ := in3_iff.1 hk
            have hcall := fun (g : Nat) (hg : (g = 54 ∧ x j 0 = 0) ∨ (g = 55 ∧ x j 0 = 1) ∨ (g = 56 ∧ x j 0 = 2) ∨ (g = 57 ∧ x j 0 = 3) ∨ (g = 58 ∧ x j 0 = 4) ∨ (g = 59 ∧ x j 0 = 5)) => do_calls hn hroom hPj (show 1099511627776 + 8589934592 * (j : Int) ≤ 4398046511104 by omega) ver (x j 1) (x j 2) (x j 3) g (x j 0) hg
            generalize doM n (fun i => A i 0) (P j).s (P j).R (x j 0) (x j 1) (x j 2) (x j 3) = r at hst1 hcall
            have hk6 : x j 0 = 0 ∨ x j 0 = 1 ∨ x j 0 = 2 ∨ x j 0 = 3 ∨ x j 0 = 4 ∨ x j 0 = 5 := by omega
            rcases hk6 with e0 | e0 | e0 | e0 | e0 | e0
            all_goals
              rw [e0] at hk hcall
              simp only [hd2, hk, e0, pipes2, getV_fL, setV_fL, getV_fI, setV_fI, getV_fP, setV_fP, snocV_fam', fam_lenV, updV_same, updV_upd, upN_same, catS1_eq, catS1_intR, catS1_slL, catS1_frz, piF_0, piF_1, piF_upd, slV, hiN, hi0, Int.toNat_natCast, Try.f14, Try.f35, within_eq, p14_2, p14_4, p14_12, p14_15, go_sem, ↓reduceIte, Nat.reduceAdd, Nat.reduceSub, Nat.reduceMul, Nat.reduceEqDiff, Nat.reduceLT, Nat.reduceLeDiff, Int.reduceToNat, Int.reduceLE, Int.reduceLT, Int.reduceEq, Int.reduceNeg, reduceCtorEq]
            all_goals
              refine ⟨⟨by kernel_rfl, by kernel_rfl⟩, by decide, ?_⟩
              refine calls_mono ?_ (calls_plant2 (K := DoK r (P j).s (P j).R) (by simp [renS, renL]) (by intro L M; simp [Bd, BdL]) (by
                rintro o s' R' (⟨_, rfl, _⟩ | ⟨_, rfl, _⟩)
                · exact ⟨_, .inl rfl, by simp [Bd, BdL], rfl⟩
                · exact ⟨_, .inr rfl, by simp [Bd, BdL], rfl⟩) (hcall _ (by decide)) .dead (.live 26 [.int .i64 0, .int .i64 0, .vec 0 0, .int .i64 0, .int .i64 0]) (.live 31 [.int .i64 0, .int .i64 0, .int .i64 0, .int .i64 0, .int .i64 0, .int .i64 0, .int .i64 0, .int .i64 0, .int .i64 0]) (.live 32 [.int .i64 0]) .dead _ (.live 0 50 2 0 (fun _ _ => .any)) [])
              rintro o h' ⟨s', ver', R', (⟨q1, rfl, rfl, rfl⟩ | ⟨q1, rfl, rfl, rfl⟩), rfl⟩
              · have hP1 : P (j + 1) = ⟨0, j + 1, r.2.1, r.2.2⟩ := by rw [hst1, stepR, if_pos q1]
                simp only [wrap_s hjm hm, pipes2, getV_fL, setV_fL, getV_fI, setV_fI, getV_fP, setV_fP, snocV_fam', fam_lenV, updV_same, updV_upd, upN_same, catS1_eq, catS1_intR, catS1_slL, catS1_frz, piF_0, piF_1, piF_upd, slV, hiN, hi0, Int.toNat_natCast, Try.f14, Try.f35, within_eq, p14_2, p14_4, p14_12, p14_15, go_sem, ↓reduceIte, Nat.reduceAdd, Nat.reduceSub, Nat.reduceMul, Nat.reduceEqDiff, Nat.reduceLT, Nat.reduceLeDiff, Int.reduceToNat, Int.reduceLE, Int.reduceLT, Int.reduceEq, Int.reduceNeg, reduceCtorEq]
                refine ⟨⟨(j + 1, ver'), by simp only []; omega, by rw [hP1]⟩, by simp only []; omega, ?_⟩
                apply sub_of <;> simp only [hP1, plB1, pipes2, getV_fL, setV_fL, getV_fI, setV_fI, getV_fP, setV_fP, snocV_fam', fam_lenV, updV_same, updV_upd, upN_same, catS1_eq, catS1_intR, catS1_slL, catS1_frz, piF_0, piF_1, piF_upd, slV, go_sem, ↓reduceIte, Nat.reduceAdd, Nat.reduceSub, Nat.reduceMul, Nat.reduceEqDiff, Nat.reduceLT, Nat.reduceLeDiff, Int.reduceToNat, Int.reduceLE, Int.reduceLT, Int.reduceEq, Int.reduceNeg, reduceCtorEq]
                · exact fun _ _ _ _ => trivial
                · exact subV_famI rfl (by simp [subV, subVk]) (fun _ _ => subVk_rfl _) trivial
                · exact fun _ _ _ _ => trivial
                · simp only [fP]; omega
                · refine bdV_famI ⟨fun i j hi => by omega, fun i j hi hj => ?_, trivial⟩ (fun _ _ => ⟨fun _ _ _ _ => trivial, trivial⟩) trivial
                  have : j = 0 ∨ j = 1 := by omega
                  rcases this with rfl | rfl
                  · trivial
                  · show fI 2 i < fP 2 n 0
                    simp only [fI, fP]; omega
              · have hPm : P m = ⟨r.1, j, (P j).s, (P j).R⟩ := by
                  have e : P (j + 1) = ⟨r.1, j, (P j).s, (P j).R⟩ := by rw [hst1, stepR, if_neg q1]
                  rw [hend (j + 1) (by rw [e]; exact q1) m (by omega), e]
                simp only [pipes2, getV_fL, setV_fL, getV_fI, setV_fI, getV_fP, setV_fP, snocV_fam', fam_lenV, updV_same, updV_upd, upN_same, catS1_eq, catS1_intR, catS1_slL, catS1_frz, piF_0, piF_1, piF_upd, slV, hiN, hi0, Int.toNat_natCast, Try.f14, Try.f35, within_eq, p14_2, p14_4, p14_12, p14_15, go_sem, ↓reduceIte, Nat.reduceAdd, Nat.reduceSub, Nat.reduceMul, Nat.reduceEqDiff, Nat.reduceLT, Nat.reduceLeDiff, Int.reduceToNat, Int.reduceLE, Int.reduceLT, Int.reduceEq, Int.reduceNeg, reduceCtorEq]
                refine defS_mono (def32_some _ 3 r.1 0 rfl) ?_
                rintro p' h' ⟨rfl, rfl⟩
                rw [hPm]
                simp only [Try.f14, go_sem, ↓reduceIte, Nat.reduceAdd, Nat.reduceSub, Nat.reduceMul, Nat.reduceEqDiff, Nat.reduceLT, Nat.reduceLeDiff, Int.reduceToNat, Int.reduceLE, Int.reduceLT, Int.reduceEq, Int.reduceNeg, reduceCtorEq]
                exact .inl ⟨q1, _, _, rfl, rfl⟩
        · have hd2 : decide ((j : Int) < (m : Int)) = false := decide_eq_false (by omega)
          obtain rfl : j = m := by omega
          simp only [hd2, plB1, pipes2, getV_fL, setV_fL, getV_fI, setV_fI, getV_fP, setV_fP, snocV_fam', fam_lenV, updV_same, updV_upd, upN_same, catS1_eq, catS1_intR, catS1_slL, catS1_frz, piF_0, piF_1, piF_upd, slV, Int.toNat_natCast, Try.f14, Try.f35, within_eq, p14_2, p14_4, p14_12, p14_15, go_sem, ↓reduceIte, Nat.reduceAdd, Nat.reduceSub, Nat.reduceMul, Nat.reduceEqDiff, Nat.reduceLT, Nat.reduceLeDiff, Int.reduceToNat, Int.reduceLE, Int.reduceLT, Int.reduceEq, Int.reduceNeg, reduceCtorEq]
          refine ⟨⟨by kernel_rfl, by kernel_rfl⟩, defS_mono (def32_none _ 3) ?_⟩
          rintro p' h' ⟨rfl, rfl⟩
          simp only [Try.f14, go_sem, ↓reduceIte, Nat.reduceAdd, Nat.reduceSub, Nat.reduceMul, Nat.reduceEqDiff, Nat.reduceLT, Nat.reduceLeDiff, Int.reduceToNat, Int.reduceLE, Int.reduceLT, Int.reduceEq, Int.reduceNeg, reduceCtorEq]
          exact .inr ⟨hje, ver, _, _, _, by rw [hnj]; rfl, rfl⟩
      · simp only [BdL, Bd, and_self, and_true, true_and]
        exact nestF_bd _ _ _ _ _ _ _ _ _
      · rintro o h' ⟨rfl, rfl⟩
        refine ⟨?_, ?_, by simp [bdO, Bd, lenB]⟩
        · exact plB_bd1 (by simp only [fam_lenV, fP, lenV]; omega)
        · exact bdV_famI (pipes_bd (by simp only [fam_lenV, fP, lenV]; omega)) (fun _ _ => slV_bd) trivial
end Go.Eng
end

/- brine: Play as a contract: foreign rows in, foreign rows out. -/
section
namespace Go.Eng
open Go Go.RowKit Go.Proofs
set_option maxRecDepth 100000
set_option maxHeartbeats 4000000
attribute [local irreducible] OwnT DefS
theorem nb_calls {P : Program} {g : Nat} {args args' : List SV} {K : Out → HS → Prop} {v : SV} (h1 : BdL 0 0 args) (hs : SameL args args') (hv : Bd 0 0 v) (hc : CallsS P g args' ⟨[], []⟩ K)
    (hk : ∀ o h', K o h' → ∃ u, o = .ret u ∧ Bd 0 0 (frzT h' u) ∧ SameD (frzT h' u) v) : BdL 0 0 args ∧ Bd 0 0 v ∧ CallsS P g args ⟨[], []⟩ (fun o _ => o = .ret v) := by
  refine ⟨h1, hv, ?_⟩
  have h2 := calls_frz (calls_congr hs hc) (fun o _ => ∃ u, o = .ret u ∧ SameD u v) (fun o h' hk' => by obtain ⟨u, e1, e2, e3⟩ := hk o h' hk'; exact ⟨u, e1, e2, _, rfl, e3⟩)
  intro E w vals hr hd
  refine (h2 E w vals hr hd).mono ?_
  rintro e w' ⟨o, h', E', ⟨u, rfl, hs⟩, hr', hx, hout⟩
  refine ⟨.ret v, h', E', rfl, hr', hx, ?_⟩
  cases e with
  | returned val => exact hs.out _ _ _ hout
  | panicked _ => exact hout.elim
  | outgrown => exact hout.elim
/-- What is handed out: the plant, or nothing if there was an error. -/
def plF (r : PlR) : PlR := if r.e = 0 then r else ⟨r.e, r.n, ⟨(0, 0), fun _ => []⟩, R00 0 0⟩
def plN (n : Nat) (r : PlR) : Nat := if r.e = 0 then n else 0
/-- Pipes as rows. -/
def piR (A : Nat → Nat → Int) (s : TkP) : Nat → Nat → SV := nestF 1 2 (fun i _ => A i 0) (fun i => (s.sl i).length) (fun i => slI (s.sl i))
def plS1 (n : Nat) (A : Nat → Nat → Int) (r : PlR) : SV := .tup [.agg [.int .i64 (plF r).s.t.1, .int .i64 (plF r).s.t.2, .row (plN n r) 2 (piR A (plF r).s), .int .i64 (plF r).R.he, .int .i64 (plF r).R.hr],
  .agg [.int .i64 (plF r).R.w, .int .i64 (plF r).R.lv, .int .i64 (plF r).R.lh, .int .i64 (plF r).R.fv, .int .i64 (plF r).R.fh, .int .i64 (plF r).R.ch, .int .i64 (plF r).R.ai, .int .i64 (plF r).R.us, .int .i64 (plF r).R.bo], .int .i64 (r.n : Int), .int .i64 r.e]
theorem plS1_bd (n : Nat) (A : Nat → Nat → Int) (r : PlR) : Bd 0 0 (plS1 n A r) := by
  simp only [plS1, piR, Bd, BdL, and_self, and_true, true_and]
  exact nestF_bd _ _ _ _ _ _ _ _ _
theorem plA_ns {tv th : Int} {n : Nat} {A : Nat → Nat → Int} {M : Nat → Nat} {V : Nat → Nat → Nat → Int} {he hr : Int} {m : Nat} {x : Nat → Nat → Int} : plA tv th n (nsA (nestF 1 2 A M V)) M V he hr m x = plA tv th n A M V he hr m x := by
  simp only [plA, okBr_ns, nsA_lit _ (show (0 : Nat) ≠ 1 by omega)]
theorem pl_frz {n : Nat} {A : Nat → Nat → Int} {r : PlR} {o : Out} {h' : HS} (h : PlayK n (fun i => A i 0) r o h') : ∃ u, o = .ret u ∧ Bd 0 0 (frzT h' u) ∧ SameD (frzT h' u) (plS1 n A r) := by
  rcases h with ⟨he, B, V, rfl, rfl⟩ | ⟨he, ver, z, B, V, rfl, rfl⟩
  · refine ⟨_, rfl, ?_⟩
    simp only [brS, smS, R00, frzT, frzA, plS1, plF, plN, if_neg he, go_sem, ↓reduceIte, Nat.reduceAdd, Nat.reduceSub, Nat.reduceMul, Nat.reduceEqDiff, Nat.reduceLT, Nat.reduceLeDiff, Int.reduceToNat, Int.reduceLE, Int.reduceLT, Int.reduceEq, Int.reduceNeg, reduceCtorEq]
    exact ⟨fun _ _ _ _ => trivial, SameD.tup ⟨SameD.agg ⟨SameD.rfl' _, SameD.rfl' _, SameD.row0, SameD.rfl' _, SameD.rfl' _, trivial⟩, SameD.rfl' _, SameD.rfl' _, SameD.rfl' _, trivial⟩⟩
  · refine ⟨_, rfl, ?_⟩
    simp only [brS, smS, R00, frzT, frzA, plS1, plF, plN, if_pos he, he, pipes2, getV_fL, setV_fL, getV_fI, setV_fI, getV_fP, setV_fP, snocV_fam', fam_lenV, updV_same, updV_upd, upN_same, catS1_eq, catS1_intR, catS1_slL, catS1_frz, piF_0, piF_1, piF_upd, slV, go_sem, ↓reduceIte, Nat.reduceAdd, Nat.reduceSub, Nat.reduceMul, Nat.reduceEqDiff, Nat.reduceLT, Nat.reduceLeDiff, Int.reduceToNat, Int.reduceLE, Int.reduceLT, Int.reduceEq, Int.reduceNeg, reduceCtorEq]
    have key : ∀ i j, i < n → j < 2 → SameD (frzF 2 { blks := B, vecs := fam [z, .live 0 50 2 n (piF 2 (fun i => A i 0) ver)] n (fun i => .live (ver i) 23 2 (r.s.sl i).length fun k j => .int .i64 (slI (r.s.sl i) k j)) V } (piF 2 (fun i => A i 0) ver i j)) (piR A r.s i j) ∧ Bd 0 0 (frzF 2 { blks := B, vecs := fam [z, .live 0 50 2 n (piF 2 (fun i => A i 0) ver)] n (fun i => .live (ver i) 23 2 (r.s.sl i).length fun k j => .int .i64 (slI (r.s.sl i) k j)) V } (piF 2 (fun i => A i 0) ver i j)) := fun i j hi hj => by
      have hj : j = 0 ∨ j = 1 := by omega
      rcases hj with rfl | rfl
      · exact ⟨SameD.rfl' _, trivial⟩
      · rw [piF_1, frzF_vec, show ∀ (f : Nat → Vc), getV (fam [z, .live 0 50 2 n (piF 2 (fun i => A i 0) ver)] n f V) (fI 2 i) = f i from fun f => getV_fI rfl hi]
        simp only [frzV, if_true]
        exact ⟨SameD.row fun _ _ _ _ => SameD.rfl' _, fun _ _ _ _ => trivial⟩
    exact ⟨fun i j hi hj => (key i j hi hj).2, SameD.tup ⟨SameD.agg ⟨SameD.rfl' _, SameD.rfl' _, SameD.row fun i j hi hj => (key i j hi hj).1, SameD.rfl' _, SameD.rfl' _, trivial⟩, SameD.rfl' _, SameD.rfl' _, SameD.rfl' _, trivial⟩⟩
def playBase : BaseF := fun args => match args with
  | [.agg [.int .i64 tv, .int .i64 th, .row n sz_A f_A, .int .i64 he, .int .i64 hr], .row m sz_x f_x] => some ((sz_A = 2 ∧ NestR n 2 1 2 f_A) ∧ (sz_x = 4 ∧ IntR m 4 f_x) ∧ (n ≤ 1000 ∧ (∀ i, i < n → (nsM 1 f_A) i ≤ 1000) ∧ m ≤ 1000000), plS1 n (nsA f_A) (plA tv th n (nsA f_A) (nsM 1 f_A) (nsV 1 f_A) he hr m (ivf f_x)))
  | _ => none
theorem play_eq (tv : Int) (th : Int) (n : Nat) (sz_A : Nat) (f_A : Nat → Nat → SV) (he : Int) (hr : Int) (m : Nat) (sz_x : Nat) (f_x : Nat → Nat → SV) : playBase [.agg [.int .i64 tv, .int .i64 th, .row n sz_A f_A, .int .i64 he, .int .i64 hr], .row m sz_x f_x] = some ((sz_A = 2 ∧ NestR n 2 1 2 f_A) ∧ (sz_x = 4 ∧ IntR m 4 f_x) ∧ (n ≤ 1000 ∧ (∀ i, i < n → (nsM 1 f_A) i ≤ 1000) ∧ m ≤ 1000000), plS1 n (nsA f_A) (plA tv th n (nsA f_A) (nsM 1 f_A) (nsV 1 f_A) he hr m (ivf f_x))) := rfl
theorem play_base : NB Try.prog 14 playBase := by
  intro args p v hq hp
  unfold playBase at hq
  split at hq
  rotate_left
  · cases hq
  rename_i tv th n sz_A f_A he hr m sz_x f_x
  cases hq
  obtain ⟨⟨rfl, i_A⟩, ⟨rfl, i_x⟩, pre⟩ := hp
  refine nb_calls (K := PlayK n (fun i => (nsA f_A) i 0) (plA tv th n (nsA f_A) (nsM 1 f_A) (nsV 1 f_A) he hr m (ivf f_x))) (g := 14) (args' := [.agg [.int .i64 tv, .int .i64 th, .row n 2 (nestF 1 2 (nsA f_A) (nsM 1 f_A) (nsV 1 f_A)), .int .i64 he, .int .i64 hr], .row m 4 (rowF .i64 (ivf f_x))]) (by
    simp only [BdL, Bd, and_self, and_true, true_and]
    exact ⟨(fun i j hi hj => nest_bd i_A i j hi hj), (fun i j hi hj => by rw [i_x i j hi hj]; trivial)⟩) ⟨SameD.agg ⟨SameD.rfl' _, SameD.rfl' _, SameD.nest i_A, SameD.rfl' _, SameD.rfl' _, trivial⟩, SameD.int i_x, trivial⟩ (plS1_bd _ _ _) ?_ ?_
  · obtain ⟨p1, p2, p3⟩ := pre
    exact play_calls p1 (nsA f_A) (nsM 1 f_A) (nsV 1 f_A) p2 tv th he hr p3 (ivf f_x)
  · exact fun o h' hk => pl_frz hk
end Go.Eng
end

/- brine: what is wrong with lists, told by program and reference. -/
section
namespace Go.Eng
open Go Go.RowKit Go.Proofs
set_option maxRecDepth 100000
set_option maxHeartbeats 4000000
attribute [local irreducible] OwnT DefS
def erR (n : Nat) (c : Nat → Int) (m : Nat) (d : Nat → Int) (s r : Int) : Int :=
  if 200 < n then 3 else if m ≠ n then 1 else if allU (fun i => in3 (c i) 0 4294967296) n && (allU (fun i => in3 (d i) 0 4294967296) m && (in3 r 0 4294967296 && in3 s 0 r)) then 0 else 2
def errorOfBase : BaseF := fun args => match args with
  | [.row n sz_c f_c, .row m sz_d f_d, .int .i64 s, .int .i64 r] => some ((sz_c = 1 ∧ IntR n 1 f_c) ∧ (sz_d = 1 ∧ IntR m 1 f_d), .int .i64 (erR n (fun i => (ivf f_c) i 0) m (fun i => (ivf f_d) i 0) s r))
  | _ => none
theorem errorOf_eq (n : Nat) (sz_c : Nat) (f_c : Nat → Nat → SV) (m : Nat) (sz_d : Nat) (f_d : Nat → Nat → SV) (s : Int) (r : Int) : errorOfBase [.row n sz_c f_c, .row m sz_d f_d, .int .i64 s, .int .i64 r] = some ((sz_c = 1 ∧ IntR n 1 f_c) ∧ (sz_d = 1 ∧ IntR m 1 f_d), .int .i64 (erR n (fun i => (ivf f_c) i 0) m (fun i => (ivf f_d) i 0) s r)) := rfl
theorem errorOf_base : Base Try.prog 38 errorOfBase := by
  intro args p v hq hp
  unfold errorOfBase at hq
  split at hq
  rotate_left
  · cases hq
  rename_i n sz_c f_c m sz_d f_d s r
  cases hq
  obtain ⟨⟨rfl, i_c⟩, ⟨rfl, i_d⟩⟩ := hp
  refine base_of (C := cx [] [] [(36, withinBase), (60, notHeatBase), (61, hasBadBase)] [] none) (cx_ok trivial ⟨within_base, notHeat_base, hasBad_base, trivial⟩) rfl (g := 38) (fn := Try.f38)
    (args' := [.row n 1 (rowF .i64 (ivf f_c)), .row m 1 (rowF .i64 (ivf f_d)), .int .i64 s, .int .i64 r]) (fn_38) rfl 1000 (by
    simp only [BdL, Bd, and_self, and_true, true_and]
    exact ⟨(fun i j hi hj => by rw [i_c i j hi hj]; trivial), (fun i j hi hj => by rw [i_d i j hi hj]; trivial)⟩) ⟨SameD.int i_c, SameD.int i_d, SameD.rfl' _, SameD.rfl' _, trivial⟩ ?_
  generalize ivf f_c = c
  generalize ivf f_d = d
  simp only [rowF_eq]
  simp only [within_eq, notHeat_eq, hasBad_eq, Try.f38, go_sem, ↓reduceIte, Nat.reduceAdd, Nat.reduceSub, Nat.reduceMul, Nat.reduceEqDiff, Nat.reduceLT, Nat.reduceLeDiff, Int.reduceToNat, Int.reduceLE, Int.reduceLT, Int.reduceEq, Int.reduceNeg, reduceCtorEq]
  refine ⟨fun c1 => ?_, fun c1 => ⟨fun c2 => ?_, fun c2 => ?_⟩⟩
  · simp only [decide_eq_true_eq] at c1
    rw [erR, if_pos (by omega)]
  · simp only [decide_eq_false_iff_not] at c1
    simp only [Bool.not_eq_true', decide_eq_false_iff_not] at c2
    rw [erR, if_neg (by omega), if_pos (by omega)]
  simp only [decide_eq_false_iff_not] at c1
  simp only [Bool.not_eq_false', decide_eq_true_eq] at c2
  rw [erR, if_neg (by omega), if_neg (by omega)]
  refine ⟨by omega, fun a1 => ?_, fun a1 => ⟨by omega, fun a2 => ?_, fun a2 => ⟨fun a3 => ?_, fun a3 => ⟨fun a4 => ?_, fun a4 => ?_⟩⟩⟩⟩
  · simp only [Bool.not_eq_true'] at a1; rw [a1]; rfl
  · simp only [Bool.not_eq_true'] at a2; rw [a2, Bool.false_and, Bool.and_false]; rfl
  · simp only [Bool.not_eq_true'] at a3; rw [a3, Bool.false_and, Bool.and_false, Bool.and_false]; rfl
  · simp only [Bool.not_eq_true'] at a4; rw [a4, Bool.and_false, Bool.and_false, Bool.and_false]; rfl
  · simp only [Bool.not_eq_false'] at a1 a2 a3 a4; rw [a1, a2, a3, a4]; rfl
end Go.Eng
end

/- brine: what is wrong with lists, told by the reference. -/
section
namespace Go.Eng
open Go Go.RowKit Go.Proofs
set_option maxRecDepth 100000
set_option maxHeartbeats 4000000
attribute [local irreducible] OwnT DefS
theorem er_bad {n m : Nat} {c d : Nat → Int} {s r : Int} {i : Nat} (hn : ¬ 200 < n) (hm : m = n) (hi : i < n) (h : in3 (c i) 0 4294967296 = false ∨ in3 (d i) 0 4294967296 = false) : erR n c m d s r = 2 := by
  subst hm
  rw [erR, if_neg hn, if_neg (by simp), if_neg]
  simp only [Bool.and_eq_true, allU_iff]
  intro ⟨h1, h2, _⟩
  rcases h with h | h
  · rw [h1 i hi] at h; cases h
  · rw [h2 i hi] at h; cases h
def errorsBase : BaseF := fun args => match args with
  | [.row n sz_c f_c, .row m sz_d f_d, .int .i64 s, .int .i64 r] => some ((sz_c = 1 ∧ IntR n 1 f_c) ∧ (sz_d = 1 ∧ IntR m 1 f_d), .int .i64 (erR n (fun i => (ivf f_c) i 0) m (fun i => (ivf f_d) i 0) s r))
  | _ => none
theorem errors_eq (n : Nat) (sz_c : Nat) (f_c : Nat → Nat → SV) (m : Nat) (sz_d : Nat) (f_d : Nat → Nat → SV) (s : Int) (r : Int) : errorsBase [.row n sz_c f_c, .row m sz_d f_d, .int .i64 s, .int .i64 r] = some ((sz_c = 1 ∧ IntR n 1 f_c) ∧ (sz_d = 1 ∧ IntR m 1 f_d), .int .i64 (erR n (fun i => (ivf f_c) i 0) m (fun i => (ivf f_d) i 0) s r)) := rfl
theorem errors_base : Base Try.prog 44 errorsBase := by
  intro args p v hq hp
  unfold errorsBase at hq
  split at hq
  rotate_left
  · cases hq
  rename_i n sz_c f_c m sz_d f_d s r
  cases hq
  obtain ⟨⟨rfl, i_c⟩, ⟨rfl, i_d⟩⟩ := hp
  refine base_of (C := cx [] [] [(37, inBase)] [] none) (cx_ok trivial ⟨in_base, trivial⟩) rfl (g := 44) (fn := Try.f44)
    (args' := [.row n 1 (rowF .i64 (ivf f_c)), .row m 1 (rowF .i64 (ivf f_d)), .int .i64 s, .int .i64 r]) (fn_44) rfl 1000 (by
    simp only [BdL, Bd, and_self, and_true, true_and]
    exact ⟨(fun i j hi hj => by rw [i_c i j hi hj]; trivial), (fun i j hi hj => by rw [i_d i j hi hj]; trivial)⟩) ⟨SameD.int i_c, SameD.int i_d, SameD.rfl' _, SameD.rfl' _, trivial⟩ ?_
  generalize ivf f_c = c
  generalize ivf f_d = d
  simp only [rowF_eq]
  simp only [in_eq, Try.f44, go_sem, ↓reduceIte, Nat.reduceAdd, Nat.reduceSub, Nat.reduceMul, Nat.reduceEqDiff, Nat.reduceLT, Nat.reduceLeDiff, Int.reduceToNat, Int.reduceLE, Int.reduceLT, Int.reduceEq, Int.reduceNeg, reduceCtorEq]
  refine ⟨fun c1 => ?_, fun c1 => ⟨fun c2 => ?_, fun c2 => ?_⟩⟩
  · simp only [decide_eq_true_eq] at c1
    rw [erR, if_pos (by omega)]
  · simp only [decide_eq_false_iff_not] at c1
    simp only [Bool.not_eq_true', decide_eq_false_iff_not] at c2
    rw [erR, if_neg (by omega), if_pos (by omega)]
  simp only [decide_eq_false_iff_not] at c1
  simp only [Bool.not_eq_false', decide_eq_true_eq] at c2
  refine loop_ofH { i : Nat // i ≤ n ∧ ∀ j, j < i → in3 (c j 0) 0 4294967296 = true ∧ in3 (d j 0) 0 4294967296 = true } (fun i => [(9, .int .i64 (i.1 : Int)), (3, .int .i64 r), (2, .int .i64 s), (1, .row m 1 fun i j => .int .i64 (d i j)), (0, .row n 1 fun i j => .int .i64 (c i j))]) (fun h _ => h) (fun i => n - i.1) (fun _ => ⟨rfl, rfl⟩) ⟨0, by omega, by omega⟩ (by (apply sub_of <;> simp only [go_sem, ↓reduceIte, Nat.reduceAdd, Nat.reduceSub, Nat.reduceMul, Nat.reduceEqDiff, Nat.reduceLT, Nat.reduceLeDiff, Int.reduceToNat, Int.reduceLE, Int.reduceLT, Int.reduceEq, Int.reduceNeg, reduceCtorEq] <;> (try simp [catF]) <;> (try exact fun j _ => Bd_nth (by simp [BdL, Bd]) j) <;> (try exact bd_setL (by simp [bdAs, BdL, Bd])) <;> (try exact nestF_bd _ _ _ _ _ _ _ _ _))) ?_
  rintro ⟨i, hi, h3⟩
  simp only [in_eq, Try.f44, go_sem, ↓reduceIte, Nat.reduceAdd, Nat.reduceSub, Nat.reduceMul, Nat.reduceEqDiff, Nat.reduceLT, Nat.reduceLeDiff, Int.reduceToNat, Int.reduceLE, Int.reduceLT, Int.reduceEq, Int.reduceNeg, reduceCtorEq]
  have hm : m = n := by omega
  refine ⟨fun e1 => ?_, fun e1 => ?_⟩
  · simp only [decide_eq_true_eq] at e1
    have im : i < n := by omega
    refine ⟨⟨by omega, by omega⟩, fun e2 => ?_, fun e2 => ⟨⟨by omega, by omega⟩, fun e3 => ?_, fun e3 => ⟨⟨i + 1, by omega, fun j hj => ?_⟩, by simp only []; omega, ?_⟩⟩⟩
    · rw [er_bad (by omega) hm im (.inl (by simpa using e2))]
    · rw [er_bad (by omega) hm im (.inr (by simpa using e3))]
    · rcases Nat.lt_or_ge j i with h | h
      · exact h3 j h
      · obtain rfl : j = i := by omega
        exact ⟨by simpa using e2, by simpa using e3⟩
    · apply sub_of <;> simp only [wrap_s im (show n ≤ 1000000 by omega), go_sem, ↓reduceIte, Nat.reduceAdd, Nat.reduceSub, Nat.reduceMul, Nat.reduceEqDiff, Nat.reduceLT, Nat.reduceLeDiff, Int.reduceToNat, Int.reduceLE, Int.reduceLT, Int.reduceEq, Int.reduceNeg, reduceCtorEq] <;> (try simp) <;> (try exact fun j _ => Bd_nth (by simp [BdL, Bd]) j) <;> (try exact bd_setL (by simp [bdAs, BdL, Bd])) <;> (try exact nestF_bd _ _ _ _ _ _ _ _ _)
  · simp only [decide_eq_false_iff_not] at e1
    obtain rfl : i = n := by omega
    subst hm
    have a1 : allU (fun i => in3 (c i 0) 0 4294967296) m = true := allU_true fun j hj => (h3 j hj).1
    have a2 : allU (fun i => in3 (d i 0) 0 4294967296) m = true := allU_true fun j hj => (h3 j hj).2
    rw [erR, if_neg (by omega), if_neg (by simp), a1, a2]
    refine ⟨fun a3 => ?_, fun a3 => ⟨fun a4 => ?_, fun a4 => ?_⟩⟩
    · simp only [Bool.not_eq_true'] at a3; rw [a3]; rfl
    · simp only [Bool.not_eq_true'] at a4; rw [a4, Bool.and_false]; rfl
    · simp only [Bool.not_eq_false'] at a3 a4; rw [a3, a4]; rfl
end Go.Eng
end

/- brine: Reuse. -/
section
namespace Go.Eng
open Go Go.RowKit Go.Proofs
set_option maxRecDepth 100000
set_option maxHeartbeats 4000000
attribute [local irreducible] OwnT DefS
theorem er_ok {n m : Nat} {c d : Nat → Int} {s r : Int} (h : erR n c m d s r = 0) : n ≤ 200 ∧ m = n ∧ (∀ i, i < n → big32 (c i)) ∧ (∀ i, i < n → big32 (d i)) ∧ 0 ≤ s ∧ s ≤ r ∧ r ≤ 4294967296 := by
  unfold erR at h
  split at h
  · cases h
  · split at h
    · cases h
    · split at h
      · rename_i h1 h2 h3
        simp only [Bool.and_eq_true, allU_iff] at h3
        obtain ⟨h3, h4, h5, h6⟩ := h3
        have h7 := in3_iff.1 h5
        have h8 := in3_iff.1 h6
        have hm : m = n := by omega
        subst hm
        exact ⟨by omega, rfl, fun i hi => in3_iff.1 (h3 i hi), fun i hi => in3_iff.1 (h4 i hi), by omega, by omega, by omega⟩
      · cases h
def ReuseBase : BaseF := fun args => match args with
  | [.row n sz_c f_c, .row m sz_d f_d, .int .i64 s, .int .i64 r] => some ((sz_c = 1 ∧ IntR n 1 f_c) ∧ (sz_d = 1 ∧ IntR m 1 f_d), .tup [.row (if erR n (fun i => (ivf f_c) i 0) m (fun i => (ivf f_d) i 0) s r = 0 then n else 0) 1 (fun i _ => .int .i64 (boR (fun i => (ivf f_c) i 0) (fun i => (ivf f_d) i 0) r s i)), .int .i64 (if erR n (fun i => (ivf f_c) i 0) m (fun i => (ivf f_d) i 0) s r = 0 then stR (fun i => (ivf f_c) i 0) (fun i => (ivf f_d) i 0) r s n else 0), .int .i64 (if erR n (fun i => (ivf f_c) i 0) m (fun i => (ivf f_d) i 0) s r = 0 then aiR (fun i => (ivf f_c) i 0) (fun i => (ivf f_d) i 0) r s n else 0), .int .i64 (erR n (fun i => (ivf f_c) i 0) m (fun i => (ivf f_d) i 0) s r)])
  | _ => none
theorem Reuse_eq (n : Nat) (sz_c : Nat) (f_c : Nat → Nat → SV) (m : Nat) (sz_d : Nat) (f_d : Nat → Nat → SV) (s : Int) (r : Int) : ReuseBase [.row n sz_c f_c, .row m sz_d f_d, .int .i64 s, .int .i64 r] = some ((sz_c = 1 ∧ IntR n 1 f_c) ∧ (sz_d = 1 ∧ IntR m 1 f_d), .tup [.row (if erR n (fun i => (ivf f_c) i 0) m (fun i => (ivf f_d) i 0) s r = 0 then n else 0) 1 (fun i _ => .int .i64 (boR (fun i => (ivf f_c) i 0) (fun i => (ivf f_d) i 0) r s i)), .int .i64 (if erR n (fun i => (ivf f_c) i 0) m (fun i => (ivf f_d) i 0) s r = 0 then stR (fun i => (ivf f_c) i 0) (fun i => (ivf f_d) i 0) r s n else 0), .int .i64 (if erR n (fun i => (ivf f_c) i 0) m (fun i => (ivf f_d) i 0) s r = 0 then aiR (fun i => (ivf f_c) i 0) (fun i => (ivf f_d) i 0) r s n else 0), .int .i64 (erR n (fun i => (ivf f_c) i 0) m (fun i => (ivf f_d) i 0) s r)]) := rfl
theorem Reuse_base : Base Try.prog 19 ReuseBase := by
  intro args p v hq hp
  unfold ReuseBase at hq
  split at hq
  rotate_left
  · cases hq
  rename_i n sz_c f_c m sz_d f_d s r
  cases hq
  obtain ⟨⟨rfl, i_c⟩, ⟨rfl, i_d⟩⟩ := hp
  refine baseF_of (C := cx [] [(39, 3, reuseBase)] [(38, errorOfBase)] [] none) (cx_ok ⟨reuse_base, trivial⟩ ⟨errorOf_base, trivial⟩) rfl (g := 19) (fn := Try.f19)
    (args' := [.row n 1 (rowF .i64 (ivf f_c)), .row m 1 (rowF .i64 (ivf f_d)), .int .i64 s, .int .i64 r]) (fn_19) rfl 1000 (by
    simp only [BdL, Bd, and_self, and_true, true_and]
    exact ⟨(fun i j hi hj => by rw [i_c i j hi hj]; trivial), (fun i j hi hj => by rw [i_d i j hi hj]; trivial)⟩) ⟨SameD.int i_c, SameD.int i_d, SameD.rfl' _, SameD.rfl' _, trivial⟩ ?_
  generalize ivf f_c = c
  generalize ivf f_d = d
  simp only [rowF_eq]
  simp only [errorOf_eq, reuse_eq, Try.f19, go_sem, ↓reduceIte, Nat.reduceAdd, Nat.reduceSub, Nat.reduceMul, Nat.reduceEqDiff, Nat.reduceLT, Nat.reduceLeDiff, Int.reduceToNat, Int.reduceLE, Int.reduceLT, Int.reduceEq, Int.reduceNeg, reduceCtorEq]
  refine ⟨fun h => ?_, fun h => ?_⟩
  · simp only [Bool.not_eq_true', decide_eq_false_iff_not] at h
    rw [if_neg h, if_neg h, if_neg h]
    exact ⟨⟨rfl, fun i j hi => absurd hi (Nat.not_lt_zero _)⟩, rfl, rfl⟩
  · simp only [Bool.not_eq_false', decide_eq_true_eq] at h
    rw [h, if_pos rfl, if_pos rfl, if_pos rfl]
    refine ⟨er_ok h, ?_, rfl, rfl, rfl⟩
    exact ⟨rfl, fun _ _ _ _ => trivial⟩
def ReuseRBase : BaseF := fun args => match args with
  | [.row n sz_c f_c, .row m sz_d f_d, .int .i64 s, .int .i64 r] => some ((sz_c = 1 ∧ IntR n 1 f_c) ∧ (sz_d = 1 ∧ IntR m 1 f_d), .tup [.row (if erR n (fun i => (ivf f_c) i 0) m (fun i => (ivf f_d) i 0) s r = 0 then n else 0) 1 (fun i _ => .int .i64 (boR (fun i => (ivf f_c) i 0) (fun i => (ivf f_d) i 0) r s i)), .int .i64 (if erR n (fun i => (ivf f_c) i 0) m (fun i => (ivf f_d) i 0) s r = 0 then stR (fun i => (ivf f_c) i 0) (fun i => (ivf f_d) i 0) r s n else 0), .int .i64 (if erR n (fun i => (ivf f_c) i 0) m (fun i => (ivf f_d) i 0) s r = 0 then aiR (fun i => (ivf f_c) i 0) (fun i => (ivf f_d) i 0) r s n else 0), .int .i64 (erR n (fun i => (ivf f_c) i 0) m (fun i => (ivf f_d) i 0) s r)])
  | _ => none
theorem ReuseR_eq (n : Nat) (sz_c : Nat) (f_c : Nat → Nat → SV) (m : Nat) (sz_d : Nat) (f_d : Nat → Nat → SV) (s : Int) (r : Int) : ReuseRBase [.row n sz_c f_c, .row m sz_d f_d, .int .i64 s, .int .i64 r] = some ((sz_c = 1 ∧ IntR n 1 f_c) ∧ (sz_d = 1 ∧ IntR m 1 f_d), .tup [.row (if erR n (fun i => (ivf f_c) i 0) m (fun i => (ivf f_d) i 0) s r = 0 then n else 0) 1 (fun i _ => .int .i64 (boR (fun i => (ivf f_c) i 0) (fun i => (ivf f_d) i 0) r s i)), .int .i64 (if erR n (fun i => (ivf f_c) i 0) m (fun i => (ivf f_d) i 0) s r = 0 then stR (fun i => (ivf f_c) i 0) (fun i => (ivf f_d) i 0) r s n else 0), .int .i64 (if erR n (fun i => (ivf f_c) i 0) m (fun i => (ivf f_d) i 0) s r = 0 then aiR (fun i => (ivf f_c) i 0) (fun i => (ivf f_d) i 0) r s n else 0), .int .i64 (erR n (fun i => (ivf f_c) i 0) m (fun i => (ivf f_d) i 0) s r)]) := rfl
theorem ReuseR_base : Base Try.prog 24 ReuseRBase := by
  intro args p v hq hp
  unfold ReuseRBase at hq
  split at hq
  rotate_left
  · cases hq
  rename_i n sz_c f_c m sz_d f_d s r
  cases hq
  obtain ⟨⟨rfl, i_c⟩, ⟨rfl, i_d⟩⟩ := hp
  refine baseF_of (C := cx [] [(45, 3, reuseRBase)] [(44, errorsBase)] [] none) (cx_ok ⟨reuseR_base, trivial⟩ ⟨errors_base, trivial⟩) rfl (g := 24) (fn := Try.f24)
    (args' := [.row n 1 (rowF .i64 (ivf f_c)), .row m 1 (rowF .i64 (ivf f_d)), .int .i64 s, .int .i64 r]) (fn_24) rfl 1000 (by
    simp only [BdL, Bd, and_self, and_true, true_and]
    exact ⟨(fun i j hi hj => by rw [i_c i j hi hj]; trivial), (fun i j hi hj => by rw [i_d i j hi hj]; trivial)⟩) ⟨SameD.int i_c, SameD.int i_d, SameD.rfl' _, SameD.rfl' _, trivial⟩ ?_
  generalize ivf f_c = c
  generalize ivf f_d = d
  simp only [rowF_eq]
  simp only [errors_eq, reuseR_eq, Try.f24, go_sem, ↓reduceIte, Nat.reduceAdd, Nat.reduceSub, Nat.reduceMul, Nat.reduceEqDiff, Nat.reduceLT, Nat.reduceLeDiff, Int.reduceToNat, Int.reduceLE, Int.reduceLT, Int.reduceEq, Int.reduceNeg, reduceCtorEq]
  refine ⟨fun h => ?_, fun h => ?_⟩
  · simp only [Bool.not_eq_true', decide_eq_false_iff_not] at h
    rw [if_neg h, if_neg h, if_neg h]
    exact ⟨⟨rfl, fun i j hi => absurd hi (Nat.not_lt_zero _)⟩, rfl, rfl⟩
  · simp only [Bool.not_eq_false', decide_eq_true_eq] at h
    rw [h, if_pos rfl, if_pos rfl, if_pos rfl]
    refine ⟨er_ok h, ?_, rfl, rfl, rfl⟩
    exact ⟨rfl, fun _ _ _ _ => trivial⟩
end Go.Eng
end

/- brine: Ints. -/
section
namespace Go.Eng
open Go Go.RowKit Go.Proofs
set_option maxRecDepth 100000
set_option maxHeartbeats 4000000
attribute [local irreducible] OwnT DefS
def IntsBase : BaseF := fun args => match args with
  | [.row n sz_v f_v, .row m sz_u f_u] => some ((sz_v = 1 ∧ IntR n 1 f_v) ∧ (sz_u = 1 ∧ IntR m 1 f_u) ∧ (n ≤ 1000000 ∧ m ≤ 1000000), .bool (decide (n = m) && allU (fun i => decide ((ivf f_v) i 0 = (ivf f_u) i 0)) n))
  | _ => none
theorem Ints_eq (n : Nat) (sz_v : Nat) (f_v : Nat → Nat → SV) (m : Nat) (sz_u : Nat) (f_u : Nat → Nat → SV) : IntsBase [.row n sz_v f_v, .row m sz_u f_u] = some ((sz_v = 1 ∧ IntR n 1 f_v) ∧ (sz_u = 1 ∧ IntR m 1 f_u) ∧ (n ≤ 1000000 ∧ m ≤ 1000000), .bool (decide (n = m) && allU (fun i => decide ((ivf f_v) i 0 = (ivf f_u) i 0)) n)) := rfl
theorem Ints_base : Base Try.prog 27 IntsBase := by
  intro args p v hq hp
  unfold IntsBase at hq
  split at hq
  rotate_left
  · cases hq
  rename_i n sz_v f_v m sz_u f_u
  cases hq
  obtain ⟨⟨rfl, i_v⟩, ⟨rfl, i_u⟩, pre⟩ := hp
  refine base_of (C := cx [] [] [] [(27, 6, p27_6)] none) (cx_ok trivial trivial) rfl (g := 27) (fn := Try.f27)
    (args' := [.row n 1 (rowF .i64 (ivf f_v)), .row m 1 (rowF .i64 (ivf f_u))]) (fn_27) rfl 1000 (by
    simp only [BdL, Bd, and_self, and_true, true_and]
    exact ⟨(fun i j hi hj => by rw [i_v i j hi hj]; trivial), (fun i j hi hj => by rw [i_u i j hi hj]; trivial)⟩) ⟨SameD.int i_v, SameD.int i_u, trivial⟩ ?_
  generalize ivf f_v = v at *
  generalize ivf f_u = u at *
  simp only [rowF_eq]
  simp only [p27_6, Try.f27, go_sem, ↓reduceIte, Nat.reduceAdd, Nat.reduceSub, Nat.reduceMul, Nat.reduceEqDiff, Nat.reduceLT, Nat.reduceLeDiff, Int.reduceToNat, Int.reduceLE, Int.reduceLT, Int.reduceEq, Int.reduceNeg, reduceCtorEq]
  obtain ⟨p1, p2⟩ := pre
  refine ⟨fun c1 => ?_, fun c1 => ?_⟩
  · simp only [Bool.not_eq_true', decide_eq_false_iff_not] at c1
    rw [decide_eq_false (by omega)]; first | done | rfl
  simp only [Bool.not_eq_false', decide_eq_true_eq] at c1
  obtain rfl : n = m := by omega
  refine loop_ofH { i : Nat // i ≤ n ∧ ∀ j, j < i → (fun i => decide (v i 0 = u i 0)) j = true } (fun i => [(5, .int .i64 (i.1 : Int)), (1, .row n 1 fun i j => .int .i64 (u i j)), (0, .row n 1 fun i j => .int .i64 (v i j))]) (fun h _ => h) (fun i => n - i.1) (fun _ => ⟨rfl, rfl⟩) ⟨0, by omega, by omega⟩ (by (apply sub_of <;> simp only [go_sem, ↓reduceIte, Nat.reduceAdd, Nat.reduceSub, Nat.reduceMul, Nat.reduceEqDiff, Nat.reduceLT, Nat.reduceLeDiff, Int.reduceToNat, Int.reduceLE, Int.reduceLT, Int.reduceEq, Int.reduceNeg, reduceCtorEq] <;> (try simp [catF]) <;> (try exact fun j _ => Bd_nth (by simp [BdL, Bd]) j) <;> (try exact bd_setL (by simp [bdAs, BdL, Bd])) <;> (try exact nestF_bd _ _ _ _ _ _ _ _ _))) ?_
  rintro ⟨i, hi, h3⟩
  simp only [p27_6, Try.f27, go_sem, ↓reduceIte, Nat.reduceAdd, Nat.reduceSub, Nat.reduceMul, Nat.reduceEqDiff, Nat.reduceLT, Nat.reduceLeDiff, Int.reduceToNat, Int.reduceLE, Int.reduceLT, Int.reduceEq, Int.reduceNeg, reduceCtorEq]
  refine ⟨fun e1 => ?_, fun e1 => ?_⟩
  · simp only [decide_eq_true_eq] at e1
    have ik : i < n := by omega
    refine ⟨⟨by kernel_rfl, by kernel_rfl⟩, ⟨by omega, by omega⟩, ⟨by omega, by omega⟩, fun e2 => ?_, fun e2 => ?_⟩
    · rw [allU_false (p := fun i => decide (v i 0 = u i 0)) ik (by simpa using e2)]; first | done | simp
    refine ⟨⟨i + 1, by omega, below h3 (by simpa using e2)⟩, by simp only []; omega, ?_⟩
    apply sub_of <;> simp only [wrap_s ik p1, go_sem, ↓reduceIte, Nat.reduceAdd, Nat.reduceSub, Nat.reduceMul, Nat.reduceEqDiff, Nat.reduceLT, Nat.reduceLeDiff, Int.reduceToNat, Int.reduceLE, Int.reduceLT, Int.reduceEq, Int.reduceNeg, reduceCtorEq] <;> (try simp) <;> (try exact fun j _ => Bd_nth (by simp [BdL, Bd]) j) <;> (try exact bd_setL (by simp [bdAs, BdL, Bd])) <;> (try exact nestF_bd _ _ _ _ _ _ _ _ _)
  · simp only [decide_eq_false_iff_not] at e1
    obtain rfl : i = n := by omega
    rw [allU_true h3]; first | done | simp
end Go.Eng
end

/- brine: Same. -/
section
namespace Go.Eng
open Go Go.RowKit Go.Proofs
set_option maxRecDepth 100000
set_option maxHeartbeats 4000000
attribute [local irreducible] OwnT DefS
/-- Are two pipes the same? -/
def samP (r1 : Int) (m1 : Nat) (v1 : Nat → Nat → Int) (r2 : Int) (m2 : Nat) (v2 : Nat → Nat → Int) : Bool := decide (r1 = r2) && (decide (m1 = m2) && allU (fun k => decide (v1 k 0 = v2 k 0) && decide (v1 k 1 = v2 k 1)) m1)
def samB (tv th : Int) (n : Nat) (A : Nat → Nat → Int) (M : Nat → Nat) (V : Nat → Nat → Nat → Int) (he hr uv uh : Int) (m : Nat) (B : Nat → Nat → Int) (K : Nat → Nat) (W : Nat → Nat → Nat → Int) (ge gr : Int) : Bool :=
  (decide (tv = uv) && decide (th = uh)) && (decide (he = ge) && (decide (hr = gr) && (decide (n = m) && allU (fun i => samP (A i 0) (M i) (V i) (B i 0) (K i) (W i)) n)))
def SameBase : BaseF := fun args => match args with
  | [.agg [.int .i64 tv, .int .i64 th, .row n sz_A f_A, .int .i64 he, .int .i64 hr], .agg [.int .i64 uv, .int .i64 uh, .row m sz_B f_B, .int .i64 ge, .int .i64 gr]] => some ((sz_A = 2 ∧ NestR n 2 1 2 f_A) ∧ (sz_B = 2 ∧ NestR m 2 1 2 f_B) ∧ (n ≤ 1000000 ∧ ∀ i, i < n → (nsM 1 f_A) i ≤ 1000000), .bool (samB tv th n (nsA f_A) (nsM 1 f_A) (nsV 1 f_A) he hr uv uh m (nsA f_B) (nsM 1 f_B) (nsV 1 f_B) ge gr))
  | _ => none
theorem Same_eq (tv : Int) (th : Int) (n : Nat) (sz_A : Nat) (f_A : Nat → Nat → SV) (he : Int) (hr : Int) (uv : Int) (uh : Int) (m : Nat) (sz_B : Nat) (f_B : Nat → Nat → SV) (ge : Int) (gr : Int) : SameBase [.agg [.int .i64 tv, .int .i64 th, .row n sz_A f_A, .int .i64 he, .int .i64 hr], .agg [.int .i64 uv, .int .i64 uh, .row m sz_B f_B, .int .i64 ge, .int .i64 gr]] = some ((sz_A = 2 ∧ NestR n 2 1 2 f_A) ∧ (sz_B = 2 ∧ NestR m 2 1 2 f_B) ∧ (n ≤ 1000000 ∧ ∀ i, i < n → (nsM 1 f_A) i ≤ 1000000), .bool (samB tv th n (nsA f_A) (nsM 1 f_A) (nsV 1 f_A) he hr uv uh m (nsA f_B) (nsM 1 f_B) (nsV 1 f_B) ge gr)) := rfl
theorem Same_base : Base Try.prog 17 SameBase := by
  intro args p v hq hp
  unfold SameBase at hq
  split at hq
  rotate_left
  · cases hq
  rename_i tv th n sz_A f_A he hr uv uh m sz_B f_B ge gr
  cases hq
  obtain ⟨⟨rfl, i_A⟩, ⟨rfl, i_B⟩, pre⟩ := hp
  refine base_of (C := cx [] [] [] [(17, 6, p17_6), (17, 12, p17_12)] none) (cx_ok trivial trivial) rfl (g := 17) (fn := Try.f17)
    (args' := [.agg [.int .i64 tv, .int .i64 th, .row n 2 (nestF 1 2 (nsA f_A) (nsM 1 f_A) (nsV 1 f_A)), .int .i64 he, .int .i64 hr], .agg [.int .i64 uv, .int .i64 uh, .row m 2 (nestF 1 2 (nsA f_B) (nsM 1 f_B) (nsV 1 f_B)), .int .i64 ge, .int .i64 gr]]) (fn_17) rfl 1000 (by
    simp only [BdL, Bd, and_self, and_true, true_and]
    exact ⟨(fun i j hi hj => nest_bd i_A i j hi hj), (fun i j hi hj => nest_bd i_B i j hi hj)⟩) ⟨SameD.agg ⟨SameD.rfl' _, SameD.rfl' _, SameD.nest i_A, SameD.rfl' _, SameD.rfl' _, trivial⟩, SameD.agg ⟨SameD.rfl' _, SameD.rfl' _, SameD.nest i_B, SameD.rfl' _, SameD.rfl' _, trivial⟩, trivial⟩ ?_
  generalize nsA f_A = A at *
  generalize nsM 1 f_A = M at *
  generalize nsV 1 f_A = V at *
  generalize nsA f_B = B at *
  generalize nsM 1 f_B = K at *
  generalize nsV 1 f_B = W at *
  obtain ⟨p1, p2⟩ := pre
  cases c0 : (decide (tv = uv) && decide (th = uh)) with
  | false => simp only [samB, c0, p17_6, p17_12, Try.f17, go_sem, ↓reduceIte, Nat.reduceAdd, Nat.reduceSub, Nat.reduceMul, Nat.reduceEqDiff, Nat.reduceLT, Nat.reduceLeDiff, Int.reduceToNat, Int.reduceLE, Int.reduceLT, Int.reduceEq, Int.reduceNeg, reduceCtorEq, Bool.false_and]
  | true =>
  cases c1 : decide (he = ge) with
  | false => simp only [samB, c0, c1, p17_6, p17_12, Try.f17, go_sem, ↓reduceIte, Nat.reduceAdd, Nat.reduceSub, Nat.reduceMul, Nat.reduceEqDiff, Nat.reduceLT, Nat.reduceLeDiff, Int.reduceToNat, Int.reduceLE, Int.reduceLT, Int.reduceEq, Int.reduceNeg, reduceCtorEq, Bool.false_and, Bool.true_and]
  | true =>
  cases c2 : decide (hr = gr) with
  | false => simp only [samB, c0, c1, c2, p17_6, p17_12, Try.f17, go_sem, ↓reduceIte, Nat.reduceAdd, Nat.reduceSub, Nat.reduceMul, Nat.reduceEqDiff, Nat.reduceLT, Nat.reduceLeDiff, Int.reduceToNat, Int.reduceLE, Int.reduceLT, Int.reduceEq, Int.reduceNeg, reduceCtorEq, Bool.false_and, Bool.true_and]
  | true =>
  by_cases c3 : n = m
  rotate_left
  · have e3 : decide ((n : Int) = (m : Int)) = false := decide_eq_false (by omega)
    have e3' : decide (n = m) = false := decide_eq_false c3
    simp only [samB, c0, c1, c2, e3, e3', p17_6, p17_12, Try.f17, go_sem, ↓reduceIte, Nat.reduceAdd, Nat.reduceSub, Nat.reduceMul, Nat.reduceEqDiff, Nat.reduceLT, Nat.reduceLeDiff, Int.reduceToNat, Int.reduceLE, Int.reduceLT, Int.reduceEq, Int.reduceNeg, reduceCtorEq, Bool.false_and, Bool.true_and]
  subst c3
  simp only [samB, c0, c1, c2, p17_6, p17_12, Try.f17, go_sem, ↓reduceIte, Nat.reduceAdd, Nat.reduceSub, Nat.reduceMul, Nat.reduceEqDiff, Nat.reduceLT, Nat.reduceLeDiff, Int.reduceToNat, Int.reduceLE, Int.reduceLT, Int.reduceEq, Int.reduceNeg, reduceCtorEq, Bool.false_and, Bool.true_and, decide_true]
  clear c0 c1 c2
  refine loop_ofH { i : Nat // i ≤ n ∧ ∀ j, j < i → (fun i => samP (A i 0) (M i) (V i) (B i 0) (K i) (W i)) j = true } (fun i => [(5, .int .i64 (i.1 : Int)), (3, .ptr 1 0), (2, .ptr 0 0)]) (fun _ _ => { blks := [.live 26 [.int .i64 tv, .int .i64 th, .row n 2 (nestF 1 2 A M V), .int .i64 he, .int .i64 hr], .live 26 [.int .i64 uv, .int .i64 uh, .row n 2 (nestF 1 2 B K W), .int .i64 ge, .int .i64 gr]], vecs := [] }) (fun i => n - i.1) (fun _ => ⟨rfl, rfl⟩) ⟨0, by omega, by omega⟩ (by (apply sub_of <;> simp only [go_sem, ↓reduceIte, Nat.reduceAdd, Nat.reduceSub, Nat.reduceMul, Nat.reduceEqDiff, Nat.reduceLT, Nat.reduceLeDiff, Int.reduceToNat, Int.reduceLE, Int.reduceLT, Int.reduceEq, Int.reduceNeg, reduceCtorEq] <;> (try simp [catF]) <;> (try exact fun j _ => Bd_nth (by simp [BdL, Bd]) j) <;> (try exact bd_setL (by simp [bdAs, BdL, Bd])) <;> (try exact nestF_bd _ _ _ _ _ _ _ _ _)) <;> exact ⟨nestF_bd _ _ _ _ _ _ _ _ _, nestF_bd _ _ _ _ _ _ _ _ _⟩) ?_
  rintro ⟨i, hi, h3⟩
  simp only [nestF11_0, nestF11_1, p17_6, p17_12, Try.f17, go_sem, ↓reduceIte, Nat.reduceAdd, Nat.reduceSub, Nat.reduceMul, Nat.reduceEqDiff, Nat.reduceLT, Nat.reduceLeDiff, Int.reduceToNat, Int.reduceLE, Int.reduceLT, Int.reduceEq, Int.reduceNeg, reduceCtorEq]
  refine ⟨fun e1 => ?_, fun e1 => ?_⟩
  rotate_left
  · simp only [decide_eq_false_iff_not] at e1
    obtain rfl : i = n := by omega
    rw [allU_true h3]
  simp only [decide_eq_true_eq] at e1
  have ik : i < n := by omega
  refine ⟨⟨by kernel_rfl, by kernel_rfl⟩, ⟨by omega, by omega⟩, ⟨by omega, by omega⟩, ⟨⟨by omega, by omega⟩, ⟨by omega, by omega⟩, ⟨by omega, by omega⟩, ?_⟩, ⟨by omega, by omega⟩, ⟨by omega, by omega⟩, ⟨by omega, by omega⟩, ?_⟩
  · cases c0 : decide (A i 0 = B i 0) with
    | false =>
      simp only [c0, go_sem, ↓reduceIte, Nat.reduceAdd, Nat.reduceSub, Nat.reduceMul, Nat.reduceEqDiff, Nat.reduceLT, Nat.reduceLeDiff, Int.reduceToNat, Int.reduceLE, Int.reduceLT, Int.reduceEq, Int.reduceNeg, reduceCtorEq]
      rw [allU_false (p := fun i => samP (A i 0) (M i) (V i) (B i 0) (K i) (W i)) ik (by simp only [samP, c0, Bool.false_and])]
    | true =>
    by_cases c1 : M i = K i
    rotate_left
    · have e2 : decide ((M i : Int) = (K i : Int)) = false := decide_eq_false (by omega)
      have e3 : decide (M i = K i) = false := decide_eq_false c1
      simp only [c0, e2, go_sem, ↓reduceIte, Nat.reduceAdd, Nat.reduceSub, Nat.reduceMul, Nat.reduceEqDiff, Nat.reduceLT, Nat.reduceLeDiff, Int.reduceToNat, Int.reduceLE, Int.reduceLT, Int.reduceEq, Int.reduceNeg, reduceCtorEq]
      rw [allU_false (p := fun i => samP (A i 0) (M i) (V i) (B i 0) (K i) (W i)) ik (by simp only [samP, c0, e3, Bool.false_and, Bool.true_and])]
    have e2 : decide ((M i : Int) = (K i : Int)) = true := decide_eq_true (by omega)
    have e3 : decide (M i = K i) = true := decide_eq_true c1
    simp only [c0, e2, go_sem, ↓reduceIte, Nat.reduceAdd, Nat.reduceSub, Nat.reduceMul, Nat.reduceEqDiff, Nat.reduceLT, Nat.reduceLeDiff, Int.reduceToNat, Int.reduceLE, Int.reduceLT, Int.reduceEq, Int.reduceNeg, reduceCtorEq]
    have pM := p2 i ik
    refine loop_ofH { k : Nat // k ≤ M i ∧ ∀ j, j < k → (fun k => decide (V i k 0 = W i k 0) && decide (V i k 1 = W i k 1)) j = true } (fun k => [(8, .int .i64 (k.1 : Int)), (7, .ptr 3 0), (6, .ptr 2 0), (5, .int .i64 (i : Int)), (3, .ptr 1 0), (2, .ptr 0 0)]) (fun _ _ => { blks := [.live 26 [.int .i64 tv, .int .i64 th, .row n 2 (nestF 1 2 A M V), .int .i64 he, .int .i64 hr], .live 26 [.int .i64 uv, .int .i64 uh, .row n 2 (nestF 1 2 B K W), .int .i64 ge, .int .i64 gr], .live 50 [.int .i64 (A i 0), .row (M i) 2 fun a b => .int .i64 (V i a b)], .live 50 [.int .i64 (B i 0), .row (K i) 2 fun a b => .int .i64 (W i a b)]], vecs := [.live 0 23 2 0 fun _ _ => .any, .live 0 23 2 0 fun _ _ => .any] }) (fun k => M i - k.1) (fun _ => ⟨rfl, rfl⟩) ⟨0, by omega, by omega⟩ (by (apply sub_of <;> simp only [go_sem, ↓reduceIte, Nat.reduceAdd, Nat.reduceSub, Nat.reduceMul, Nat.reduceEqDiff, Nat.reduceLT, Nat.reduceLeDiff, Int.reduceToNat, Int.reduceLE, Int.reduceLT, Int.reduceEq, Int.reduceNeg, reduceCtorEq] <;> (try simp [catF]) <;> (try exact fun j _ => Bd_nth (by simp [BdL, Bd]) j) <;> (try exact bd_setL (by simp [bdAs, BdL, Bd])) <;> (try exact nestF_bd _ _ _ _ _ _ _ _ _)) <;> exact ⟨nestF_bd _ _ _ _ _ _ _ _ _, nestF_bd _ _ _ _ _ _ _ _ _⟩) ?_
    rintro ⟨k, hk, h4⟩
    simp only [p17_6, p17_12, Try.f17, go_sem, ↓reduceIte, Nat.reduceAdd, Nat.reduceSub, Nat.reduceMul, Nat.reduceEqDiff, Nat.reduceLT, Nat.reduceLeDiff, Int.reduceToNat, Int.reduceLE, Int.reduceLT, Int.reduceEq, Int.reduceNeg, reduceCtorEq]
    refine ⟨fun g1 => ?_, fun g1 => ?_⟩
    · simp only [decide_eq_true_eq] at g1
      have kk : k < M i := by omega
      refine ⟨⟨by kernel_rfl, by kernel_rfl⟩, ⟨by omega, by omega⟩, ⟨by omega, by omega⟩, ?_⟩
      cases g2 : (decide (V i k 0 = W i k 0) && decide (V i k 1 = W i k 1)) with
      | false =>
        simp only [go_sem, ↓reduceIte, Nat.reduceAdd, Nat.reduceSub, Nat.reduceMul, Nat.reduceEqDiff, Nat.reduceLT, Nat.reduceLeDiff, Int.reduceToNat, Int.reduceLE, Int.reduceLT, Int.reduceEq, Int.reduceNeg, reduceCtorEq]
        rw [allU_false (p := fun i => samP (A i 0) (M i) (V i) (B i 0) (K i) (W i)) ik (by simp only [samP, c0, e3, allU_false (p := fun k => decide (V i k 0 = W i k 0) && decide (V i k 1 = W i k 1)) kk g2, Bool.true_and])]
      | true =>
        simp only [go_sem, ↓reduceIte, Nat.reduceAdd, Nat.reduceSub, Nat.reduceMul, Nat.reduceEqDiff, Nat.reduceLT, Nat.reduceLeDiff, Int.reduceToNat, Int.reduceLE, Int.reduceLT, Int.reduceEq, Int.reduceNeg, reduceCtorEq]
        refine ⟨⟨k + 1, by omega, below h4 g2⟩, by simp only []; omega, ?_⟩
        apply sub_of <;> simp only [wrap_s kk pM, go_sem, ↓reduceIte, Nat.reduceAdd, Nat.reduceSub, Nat.reduceMul, Nat.reduceEqDiff, Nat.reduceLT, Nat.reduceLeDiff, Int.reduceToNat, Int.reduceLE, Int.reduceLT, Int.reduceEq, Int.reduceNeg, reduceCtorEq] <;> (try simp) <;> (try exact fun j _ => Bd_nth (by simp [BdL, Bd]) j) <;> (try exact bd_setL (by simp [bdAs, BdL, Bd])) <;> (try exact nestF_bd _ _ _ _ _ _ _ _ _) <;> exact ⟨nestF_bd _ _ _ _ _ _ _ _ _, nestF_bd _ _ _ _ _ _ _ _ _⟩
    · simp only [decide_eq_false_iff_not] at g1
      obtain rfl : k = M i := by omega
      refine ⟨⟨i + 1, by omega, below h3 (by simp only [samP, c0, e3, allU_true h4, Bool.true_and])⟩, by simp only []; omega, ?_⟩
      apply sub_of <;> simp only [wrap_s ik p1, go_sem, ↓reduceIte, Nat.reduceAdd, Nat.reduceSub, Nat.reduceMul, Nat.reduceEqDiff, Nat.reduceLT, Nat.reduceLeDiff, Int.reduceToNat, Int.reduceLE, Int.reduceLT, Int.reduceEq, Int.reduceNeg, reduceCtorEq] <;> (try simp) <;> (try exact fun j _ => Bd_nth (by simp [BdL, Bd]) j) <;> (try exact bd_setL (by simp [bdAs, BdL, Bd])) <;> (try exact nestF_bd _ _ _ _ _ _ _ _ _) <;> exact ⟨nestF_bd _ _ _ _ _ _ _ _ _, nestF_bd _ _ _ _ _ _ _ _ _⟩
  · cases c0 : decide (A i 0 = B i 0) with
    | false =>
      simp only [c0, go_sem, ↓reduceIte, Nat.reduceAdd, Nat.reduceSub, Nat.reduceMul, Nat.reduceEqDiff, Nat.reduceLT, Nat.reduceLeDiff, Int.reduceToNat, Int.reduceLE, Int.reduceLT, Int.reduceEq, Int.reduceNeg, reduceCtorEq]
      rw [allU_false (p := fun i => samP (A i 0) (M i) (V i) (B i 0) (K i) (W i)) ik (by simp only [samP, c0, Bool.false_and])]
    | true =>
    by_cases c1 : M i = K i
    rotate_left
    · have e2 : decide ((M i : Int) = (K i : Int)) = false := decide_eq_false (by omega)
      have e3 : decide (M i = K i) = false := decide_eq_false c1
      simp only [c0, e2, go_sem, ↓reduceIte, Nat.reduceAdd, Nat.reduceSub, Nat.reduceMul, Nat.reduceEqDiff, Nat.reduceLT, Nat.reduceLeDiff, Int.reduceToNat, Int.reduceLE, Int.reduceLT, Int.reduceEq, Int.reduceNeg, reduceCtorEq]
      rw [allU_false (p := fun i => samP (A i 0) (M i) (V i) (B i 0) (K i) (W i)) ik (by simp only [samP, c0, e3, Bool.false_and, Bool.true_and])]
    have e2 : decide ((M i : Int) = (K i : Int)) = true := decide_eq_true (by omega)
    have e3 : decide (M i = K i) = true := decide_eq_true c1
    simp only [c0, e2, go_sem, ↓reduceIte, Nat.reduceAdd, Nat.reduceSub, Nat.reduceMul, Nat.reduceEqDiff, Nat.reduceLT, Nat.reduceLeDiff, Int.reduceToNat, Int.reduceLE, Int.reduceLT, Int.reduceEq, Int.reduceNeg, reduceCtorEq]
    have pM := p2 i ik
    refine loop_ofH { k : Nat // k ≤ M i ∧ ∀ j, j < k → (fun k => decide (V i k 0 = W i k 0) && decide (V i k 1 = W i k 1)) j = true } (fun k => [(8, .int .i64 (k.1 : Int)), (7, .ptr 2 0), (6, .ptr 3 0), (5, .int .i64 (i : Int)), (3, .ptr 1 0), (2, .ptr 0 0)]) (fun _ _ => { blks := [.live 26 [.int .i64 tv, .int .i64 th, .row n 2 (nestF 1 2 A M V), .int .i64 he, .int .i64 hr], .live 26 [.int .i64 uv, .int .i64 uh, .row n 2 (nestF 1 2 B K W), .int .i64 ge, .int .i64 gr], .live 50 [.int .i64 (B i 0), .row (K i) 2 fun a b => .int .i64 (W i a b)], .live 50 [.int .i64 (A i 0), .row (M i) 2 fun a b => .int .i64 (V i a b)]], vecs := [.live 0 23 2 0 fun _ _ => .any, .live 0 23 2 0 fun _ _ => .any] }) (fun k => M i - k.1) (fun _ => ⟨rfl, rfl⟩) ⟨0, by omega, by omega⟩ (by (apply sub_of <;> simp only [go_sem, ↓reduceIte, Nat.reduceAdd, Nat.reduceSub, Nat.reduceMul, Nat.reduceEqDiff, Nat.reduceLT, Nat.reduceLeDiff, Int.reduceToNat, Int.reduceLE, Int.reduceLT, Int.reduceEq, Int.reduceNeg, reduceCtorEq] <;> (try simp [catF]) <;> (try exact fun j _ => Bd_nth (by simp [BdL, Bd]) j) <;> (try exact bd_setL (by simp [bdAs, BdL, Bd])) <;> (try exact nestF_bd _ _ _ _ _ _ _ _ _)) <;> exact ⟨nestF_bd _ _ _ _ _ _ _ _ _, nestF_bd _ _ _ _ _ _ _ _ _⟩) ?_
    rintro ⟨k, hk, h4⟩
    simp only [p17_6, p17_12, Try.f17, go_sem, ↓reduceIte, Nat.reduceAdd, Nat.reduceSub, Nat.reduceMul, Nat.reduceEqDiff, Nat.reduceLT, Nat.reduceLeDiff, Int.reduceToNat, Int.reduceLE, Int.reduceLT, Int.reduceEq, Int.reduceNeg, reduceCtorEq]
    refine ⟨fun g1 => ?_, fun g1 => ?_⟩
    · simp only [decide_eq_true_eq] at g1
      have kk : k < M i := by omega
      refine ⟨⟨by kernel_rfl, by kernel_rfl⟩, ⟨by omega, by omega⟩, ⟨by omega, by omega⟩, ?_⟩
      cases g2 : (decide (V i k 0 = W i k 0) && decide (V i k 1 = W i k 1)) with
      | false =>
        simp only [go_sem, ↓reduceIte, Nat.reduceAdd, Nat.reduceSub, Nat.reduceMul, Nat.reduceEqDiff, Nat.reduceLT, Nat.reduceLeDiff, Int.reduceToNat, Int.reduceLE, Int.reduceLT, Int.reduceEq, Int.reduceNeg, reduceCtorEq]
        rw [allU_false (p := fun i => samP (A i 0) (M i) (V i) (B i 0) (K i) (W i)) ik (by simp only [samP, c0, e3, allU_false (p := fun k => decide (V i k 0 = W i k 0) && decide (V i k 1 = W i k 1)) kk g2, Bool.true_and])]
      | true =>
        simp only [go_sem, ↓reduceIte, Nat.reduceAdd, Nat.reduceSub, Nat.reduceMul, Nat.reduceEqDiff, Nat.reduceLT, Nat.reduceLeDiff, Int.reduceToNat, Int.reduceLE, Int.reduceLT, Int.reduceEq, Int.reduceNeg, reduceCtorEq]
        refine ⟨⟨k + 1, by omega, below h4 g2⟩, by simp only []; omega, ?_⟩
        apply sub_of <;> simp only [wrap_s kk pM, go_sem, ↓reduceIte, Nat.reduceAdd, Nat.reduceSub, Nat.reduceMul, Nat.reduceEqDiff, Nat.reduceLT, Nat.reduceLeDiff, Int.reduceToNat, Int.reduceLE, Int.reduceLT, Int.reduceEq, Int.reduceNeg, reduceCtorEq] <;> (try simp) <;> (try exact fun j _ => Bd_nth (by simp [BdL, Bd]) j) <;> (try exact bd_setL (by simp [bdAs, BdL, Bd])) <;> (try exact nestF_bd _ _ _ _ _ _ _ _ _) <;> exact ⟨nestF_bd _ _ _ _ _ _ _ _ _, nestF_bd _ _ _ _ _ _ _ _ _⟩
    · simp only [decide_eq_false_iff_not] at g1
      obtain rfl : k = M i := by omega
      refine ⟨⟨i + 1, by omega, below h3 (by simp only [samP, c0, e3, allU_true h4, Bool.true_and])⟩, by simp only []; omega, ?_⟩
      apply sub_of <;> simp only [wrap_s ik p1, go_sem, ↓reduceIte, Nat.reduceAdd, Nat.reduceSub, Nat.reduceMul, Nat.reduceEqDiff, Nat.reduceLT, Nat.reduceLeDiff, Int.reduceToNat, Int.reduceLE, Int.reduceLT, Int.reduceEq, Int.reduceNeg, reduceCtorEq] <;> (try simp) <;> (try exact fun j _ => Bd_nth (by simp [BdL, Bd]) j) <;> (try exact bd_setL (by simp [bdAs, BdL, Bd])) <;> (try exact nestF_bd _ _ _ _ _ _ _ _ _) <;> exact ⟨nestF_bd _ _ _ _ _ _ _ _ _, nestF_bd _ _ _ _ _ _ _ _ _⟩
end Go.Eng
end

/- brine: the document's example. -/
section
namespace Go.Eng
open Go Go.RowKit Go.Proofs
set_option maxRecDepth 100000
set_option maxHeartbeats 4000000
attribute [local irreducible] OwnT DefS
def saA : Nat → Nat → Int
  | 0, 0 => 50
  | 1, 0 => 40
  | _, _ => 0
def saM : Nat → Nat
  | 0 => 2
  | _ => 1
def saV : Nat → Nat → Nat → Int
  | 0, 0, 0 => 30
  | 0, 0, 1 => 90
  | 0, 1, 0 => 20
  | 0, 1, 1 => 100
  | 1, 0, 0 => 10
  | 1, 0, 1 => 50
  | _, _, _ => 0
def saX : Nat → Nat → Int
  | 0, 2 => 30
  | 1, 0 => 1
  | 1, 3 => 50
  | 2, 0 => 2
  | 2, 1 => 1
  | 2, 2 => 15
  | 3, 2 => 20
  | 4, 0 => 4
  | 4, 3 => 400
  | 5, 0 => 5
  | 5, 3 => 550
  | _, _ => 0
def laV : Nat → Nat → Nat → Int
  | 0, 0, 0 => 30
  | 0, 0, 1 => 330
  | 0, 1, 0 => 20
  | 0, 1, 1 => 200
  | 1, 0, 0 => 20
  | 1, 0, 1 => 60
  | 1, 1, 0 => 20
  | 1, 1, 1 => 120
  | _, _, _ => 0
theorem two {i : Nat} (h : i < 2) : i = 0 ∨ i = 1 := by omega
theorem four {i : Nat} (h : i < 4) : i = 0 ∨ i = 1 ∨ i = 2 ∨ i = 3 := by omega
theorem six {i : Nat} (h : i < 6) : i = 0 ∨ i = 1 ∨ i = 2 ∨ i = 3 ∨ i = 4 ∨ i = 5 := by omega
def sampleBase : BaseF := fun args => match args with
  | [] => some (True, .tup [.agg [.int .i64 100, .int .i64 1000, .row 2 2 (nestF 1 2 saA saM saV), .int .i64 200, .int .i64 500], .row 6 4 (fun i j => .int .i64 (saX i j))])
  | _ => none
theorem sample_eq  : sampleBase [] = some (True, .tup [.agg [.int .i64 100, .int .i64 1000, .row 2 2 (nestF 1 2 saA saM saV), .int .i64 200, .int .i64 500], .row 6 4 (fun i j => .int .i64 (saX i j))]) := rfl
theorem sample_base : NB Try.prog 29 sampleBase := by
  intro args p v hq hp
  unfold sampleBase at hq
  split at hq
  rotate_left
  · cases hq
  cases hq
  refine nb_of (C := cx [] [] [] [] none) (cx_ok trivial trivial) rfl (g := 29) (fn := Try.f29)
    (args' := []) (fn_29) rfl 1000 (by simp only [BdL, Bd, and_self, and_true, true_and]) trivial (by simp only [Bd, BdL, and_true, true_and, implies_true]; exact nestF_bd _ _ _ _ _ _ _ _ _) ?_
  simp only [Try.f29, go_sem, ↓reduceIte, Nat.reduceAdd, Nat.reduceSub, Nat.reduceMul, Nat.reduceEqDiff, Nat.reduceLT, Nat.reduceLeDiff, Int.reduceToNat, Int.reduceLE, Int.reduceLT, Int.reduceEq, Int.reduceNeg, reduceCtorEq]
  refine ⟨⟨fun i j hi hj => ?_, fun i j hi hj => ?_⟩, SameD.tup ⟨SameD.agg ⟨SameD.rfl' _, SameD.rfl' _, SameD.rowD fun i j hi hj => ?_, SameD.rfl' _, SameD.rfl' _, trivial⟩, SameD.rowD fun i j hi hj => ?_, trivial⟩⟩
  · rcases two hi with rfl | rfl <;> rcases two hj with rfl | rfl <;> first | exact trivial | skip
    · exact fun a b ha hb => by rcases two ha with rfl | rfl <;> rcases two hb with rfl | rfl <;> exact trivial
    · exact fun a b ha hb => by rcases (show a = 0 by exact Nat.lt_one_iff.1 ha) with rfl; rcases two hb with rfl | rfl <;> exact trivial
  · rcases six hi with rfl | rfl | rfl | rfl | rfl | rfl <;> rcases four hj with rfl | rfl | rfl | rfl <;> exact trivial
  · rcases two hi with rfl | rfl <;> rcases two hj with rfl | rfl <;> first | exact SameD.rfl' _ | skip
    · exact SameD.rowD fun a b ha hb => by rcases two ha with rfl | rfl <;> rcases two hb with rfl | rfl <;> exact SameD.rfl' _
    · exact SameD.rowD fun a b ha hb => by rcases (show a = 0 by exact Nat.lt_one_iff.1 ha) with rfl; rcases two hb with rfl | rfl <;> exact SameD.rfl' _
  · rcases six hi with rfl | rfl | rfl | rfl | rfl | rfl <;> rcases four hj with rfl | rfl | rfl | rfl <;> exact SameD.rfl' _
def lastBase : BaseF := fun args => match args with
  | [] => some (True, .agg [.int .i64 55, .int .i64 115, .row 2 2 (nestF 1 2 saA (fun _ => 2) laV), .int .i64 0, .int .i64 500])
  | _ => none
theorem last_eq  : lastBase [] = some (True, .agg [.int .i64 55, .int .i64 115, .row 2 2 (nestF 1 2 saA (fun _ => 2) laV), .int .i64 0, .int .i64 500]) := rfl
theorem last_base : NB Try.prog 30 lastBase := by
  intro args p v hq hp
  unfold lastBase at hq
  split at hq
  rotate_left
  · cases hq
  cases hq
  refine nb_of (C := cx [] [] [] [] none) (cx_ok trivial trivial) rfl (g := 30) (fn := Try.f30)
    (args' := []) (fn_30) rfl 1000 (by simp only [BdL, Bd, and_self, and_true, true_and]) trivial (by simp only [Bd, BdL, and_true, true_and, implies_true]; exact nestF_bd _ _ _ _ _ _ _ _ _) ?_
  simp only [Try.f30, go_sem, ↓reduceIte, Nat.reduceAdd, Nat.reduceSub, Nat.reduceMul, Nat.reduceEqDiff, Nat.reduceLT, Nat.reduceLeDiff, Int.reduceToNat, Int.reduceLE, Int.reduceLT, Int.reduceEq, Int.reduceNeg, reduceCtorEq]
  refine ⟨fun i j hi hj => ?_, SameD.agg ⟨SameD.rfl' _, SameD.rfl' _, SameD.rowD fun i j hi hj => ?_, SameD.rfl' _, SameD.rfl' _, trivial⟩⟩
  · rcases two hi with rfl | rfl <;> rcases two hj with rfl | rfl <;> first | exact trivial | skip
    · exact fun a b ha hb => by rcases two ha with rfl | rfl <;> rcases two hb with rfl | rfl <;> exact trivial
    · exact fun a b ha hb => by rcases two ha with rfl | rfl <;> rcases two hb with rfl | rfl <;> exact trivial
  · rcases two hi with rfl | rfl <;> rcases two hj with rfl | rfl <;> first | exact SameD.rfl' _ | skip
    · exact SameD.rowD fun a b ha hb => by rcases two ha with rfl | rfl <;> rcases two hb with rfl | rfl <;> exact SameD.rfl' _
    · exact SameD.rowD fun a b ha hb => by rcases two ha with rfl | rfl <;> rcases two hb with rfl | rfl <;> exact SameD.rfl' _
def alP : PlR := plA 100 1000 2 saA saM saV 200 500 6 saX
theorem alP_e : alP.e = 0 := by decide +kernel
theorem alP_n : alP.n = 6 := by decide +kernel
theorem al_f (r : PlR) (h : r.e = 0) : plF r = r := by simp [plF, h]
theorem al_plS : plS1 2 (nsA (nestF 1 2 saA saM saV)) (plA 100 1000 2 saA saM saV 200 500 6 saX) = .tup [.agg [.int .i64 55, .int .i64 115, .row 2 2 (nestF 1 2 (fun i _ => saA i 0) (fun i => (alP.s.sl i).length) (fun i => slI (alP.s.sl i))), .int .i64 0, .int .i64 500],
    .agg [.int .i64 50, .int .i64 15, .int .i64 65, .int .i64 0, .int .i64 0, .int .i64 400, .int .i64 100, .int .i64 550, .int .i64 50], .int .i64 6, .int .i64 0] := by
  have e1 : alP.s.t.1 = 55 := by decide +kernel
  have e2 : alP.s.t.2 = 115 := by decide +kernel
  have e3 : alP.R.he = 0 := by decide +kernel
  have e4 : alP.R.hr = 500 := by decide +kernel
  have e5 : alP.R.w = 50 := by decide +kernel
  have e6 : alP.R.lv = 15 := by decide +kernel
  have e7 : alP.R.lh = 65 := by decide +kernel
  have e8 : alP.R.fv = 0 := by decide +kernel
  have e9 : alP.R.fh = 0 := by decide +kernel
  have e10 : alP.R.ch = 400 := by decide +kernel
  have e11 : alP.R.ai = 100 := by decide +kernel
  have e12 : alP.R.us = 550 := by decide +kernel
  have e13 : alP.R.bo = 50 := by decide +kernel
  have eA : (fun i (_ : Nat) => nsA (nestF 1 2 saA saM saV) i 0) = (fun i _ => saA i 0) := by funext i _; exact nsA_lit _ (by omega)
  show plS1 2 (nsA (nestF 1 2 saA saM saV)) alP = _
  simp only [plS1, plN, al_f alP alP_e, alP_e, alP_n, e1, e2, e3, e4, e5, e6, e7, e8, e9, e10, e11, e12, e13, piR, eA, if_true]
  rfl
theorem samB_ns1 {tv th : Int} {n : Nat} {A : Nat → Nat → Int} {M : Nat → Nat} {V : Nat → Nat → Nat → Int} {he hr uv uh : Int} {m : Nat} {B : Nat → Nat → Int} {K : Nat → Nat} {W : Nat → Nat → Nat → Int} {ge gr : Int} :
    samB tv th n (nsA (nestF 1 2 A M V)) M V he hr uv uh m B K W ge gr = samB tv th n A M V he hr uv uh m B K W ge gr := by
  simp only [samB, nsA_lit _ (show (0 : Nat) ≠ 1 by omega)]
theorem samB_ns2 {tv th : Int} {n : Nat} {A : Nat → Nat → Int} {M : Nat → Nat} {V : Nat → Nat → Nat → Int} {he hr uv uh : Int} {m : Nat} {B : Nat → Nat → Int} {K : Nat → Nat} {W : Nat → Nat → Nat → Int} {ge gr : Int} :
    samB tv th n A M V he hr uv uh m (nsA (nestF 1 2 B K W)) K W ge gr = samB tv th n A M V he hr uv uh m B K W ge gr := by
  simp only [samB, nsA_lit _ (show (0 : Nat) ≠ 1 by omega)]
theorem al_same : samB 55 115 2 (fun i _ => saA i 0) (fun i => (alP.s.sl i).length) (fun i => slI (alP.s.sl i)) 0 500 55 115 2 saA (fun _ => 2) laV 0 500 = true := by decide +kernel
theorem frz_l4 (k : Nat) (h : HS) (a b c d : Int) (j : Nat) : frzF (k + 1) h (nth [.int .i64 a, .int .i64 b, .int .i64 c, .int .i64 d] j) = nth [.int .i64 a, .int .i64 b, .int .i64 c, .int .i64 d] j := by
  match j with
  | 0 | 1 | 2 | 3 => rfl
  | _ + 4 => rfl
def aliveBase : BaseF := fun args => match args with
  | [] => some (True, .bool true)
  | _ => none
theorem alive_eq  : aliveBase [] = some (True, .bool true) := rfl
theorem alive_base : Base Try.prog 13 aliveBase := by
  intro args p v hq hp
  unfold aliveBase at hq
  split at hq
  rotate_left
  · cases hq
  cases hq
  refine base_of (C := cxn [] [(29, sampleBase), (30, lastBase), (14, playBase)] [] [(17, SameBase), (27, IntsBase), (19, ReuseBase)] [(13, 5, p13_5)] none) (cxn_ok ⟨sample_base, last_base, play_base, trivial⟩ trivial ⟨Same_base, Ints_base, Reuse_base, trivial⟩) rfl (g := 13) (fn := Try.f13)
    (args' := []) (fn_13) rfl 1000 (by simp only [BdL, Bd, and_self, and_true, true_and]) trivial ?_
  simp only [Same_eq, Ints_eq, Reuse_eq, sample_eq, last_eq, play_eq, p13_5, nestF_eq, nestR_lit, nsM_lit, nsV_lit, plA_ns, al_plS, samB_ns1, samB_ns2, al_same, frz_l4, Try.f13, go_sem, ↓reduceIte, Nat.reduceAdd, Nat.reduceSub, Nat.reduceMul, Nat.reduceEqDiff, Nat.reduceLT, Nat.reduceLeDiff, Int.reduceToNat, Int.reduceLE, Int.reduceLT, Int.reduceEq, Int.reduceNeg, reduceCtorEq]
  have hi4 : ∀ a b c d : Int, IntR 4 1 fun i j => nth [.int .i64 a, .int .i64 b, .int .i64 c, .int .i64 d] (i * 1 + j) := fun a b c d i j hi hj => by
    obtain rfl : j = 0 := by omega
    rcases four hi with rfl | rfl | rfl | rfl <;> rfl
  refine ⟨fun i _ => by simp only [saM]; split <;> omega, ⟨hi4 _ _ _ _, hi4 _ _ _ _⟩, ⟨by kernel_rfl, by kernel_rfl⟩, fun i hi => ?_, ⟨hi4 _ _ _ _, by decide +kernel⟩, ?_⟩
  · rcases two hi with rfl | rfl <;> decide +kernel
  · exact spl_t (by kernel_rfl) (spl_t (by kernel_rfl) (spl_t (by kernel_rfl) (by congr 1)))
end Go.Eng
end
