/-
  ClockSeconds: for every input the law returns true, and each argument reads afterwards as it read before. No condition.
-/
import Derived.Test.YtjkbmnhpbncdcaaRows
import Derived.WalkKit
import Derived.Test.YtjkbmnhpbncdcaaK4
set_option linter.unusedSimpArgs false
set_option linter.unusedVariables false
/- clock: ClockPlays. -/
section
namespace Go.Eng
open Go Go.RowKit Go.Proofs
set_option maxRecDepth 100000
set_option maxHeartbeats 4000000
attribute [local irreducible] OwnT DefS
/-- No list is long. -/
def Bo.Sm (b : Bo) : Prop := b.p0.length ≤ 600 ∧ b.p1.length ≤ 600 ∧ b.m0.length ≤ 600 ∧ b.m1.length ≤ 600
theorem z_sm : Bo.z.Sm := ⟨by decide, by decide, by decide, by decide⟩
theorem cnt_sm {b : Bo} {n : Nat} (h : b.Cnt n) (hn : n ≤ 300) : b.Sm := ⟨by have := h.p0; omega, by have := h.p1; omega, by have := h.m0; omega, by have := h.m1; omega⟩
theorem plR_sm (n : Nat) (l : Nat → Nat → Int) : (plR n l).1.Sm := by
  unfold plR
  split
  · exact z_sm
  · split
    · exact z_sm
    · exact cnt_sm (playP_ok (ev := evN l) (to := 1048576) (by omega) n 0 G0 G0_ok G0_cnt (by omega)).2 (by omega)
theorem plT_sm (n : Nat) (l : Nat → Nat → Int) : (plT n l).1.Sm := by rw [← plR_plT]; exact plR_sm n l
theorem atR_sm (n : Nat) (l : Nat → Nat → Int) (to : Int) : (atR n l to).1.Sm := by
  unfold atR
  rw [plR_plT]
  split
  · exact z_sm
  · rename_i h
    split
    · exact z_sm
    · rename_i h2
      have hto := in3_iff.1 (show in3 to 0 1048576 = true by simpa using h2)
      have hn := (plT_len (by simpa using h)).1
      exact cnt_sm (passP_cnt _ _ (playP_ok (ev := evN l) (to := to) hto n 0 G0 G0_ok G0_cnt (by omega)).2) (by omega)
theorem agT_sm (n : Nat) (l : Nat → Nat → Int) (to : Int) : (agT n l to).1.b.Sm := by
  have := atR_sm n l to
  rw [atR_agT] at this
  exact this
theorem wiT_sm (n : Nat) (l : Nat → Nat → Int) (q : Int) : (wiT n l q).1.Sm := by
  unfold wiT
  repeat' split
  all_goals first | exact z_sm | exact plT_sm _ _
def clockPlaysBase : BaseF := fun args => match args with
  | [.row n sz_l f_l, .int .i64 second, .int .i64 index] => some ((sz_l = 4 ∧ IntR n 4 f_l), .bool true)
  | _ => none
theorem clockPlays_eq (n : Nat) (sz_l : Nat) (f_l : Nat → Nat → SV) (second : Int) (index : Int) : clockPlaysBase [.row n sz_l f_l, .int .i64 second, .int .i64 index] = some ((sz_l = 4 ∧ IntR n 4 f_l), .bool true) := rfl
theorem clockPlays_base : Base Try.prog 7 clockPlaysBase := by
  intro args p v hq hp
  unfold clockPlaysBase at hq
  split at hq
  rotate_left
  · cases hq
  rename_i n sz_l f_l second index
  cases hq
  obtain ⟨rfl, i_l⟩ := hp
  refine base_of (C := cxn [] [(23, playTBase), (24, atTBase), (25, withoutBase), (26, withTBase)] [] [(11, aliveBase), (12, playBase), (14, atBase), (20, sameBase)] [] none) (cxn_ok ⟨playT_base, atT_base, without_base, withT_base, trivial⟩ trivial ⟨alive_base, play_base, at_base, same_base, trivial⟩) rfl (g := 7) (fn := Try.f7)
    (args' := [.row n 4 (rowF .i64 (ivf f_l)), .int .i64 second, .int .i64 index]) (fn_7) rfl 1000 (by
    simp only [BdL, Bd, and_self, and_true, true_and]
    exact (fun i j hi hj => by rw [i_l i j hi hj]; trivial)) ⟨SameD.int i_l, SameD.rfl' _, SameD.rfl' _, trivial⟩ ?_
  generalize ivf f_l = l
  simp only [rowF_eq]
  simp only [alive_eq, play_eq, at_eq, same_eq, playT_eq, atT_eq, without_eq, withT_eq, Try.f15, boS, rowP, pl_pf, plR_plT, atR_agT, wiR_wiT, Try.f7, go_sem, ↓reduceIte, Nat.reduceAdd, Nat.reduceSub, Nat.reduceMul, Nat.reduceEqDiff, Nat.reduceLT, Nat.reduceLeDiff, Int.reduceToNat, Int.reduceLE, Int.reduceLT, Int.reduceEq, Int.reduceNeg, reduceCtorEq]
  have h1 := plT_sm n l
  have h2 := agT_sm n l second
  have h3 := wiT_sm n l index
  unfold Bo.Sm at h1 h2 h3
  repeat' first | refine spl_intro (fun _ => ?_) (fun _ => ?_) | apply And.intro
  all_goals first | trivial | omega | skip
  all_goals (simp only [decide_eq_true_eq, decide_eq_false_iff_not] at *; omega)
end Go.Eng
end

/- clock: event by event (plain). -/
section
namespace Go.Eng
open Go Go.RowKit Go.Proofs
set_option maxRecDepth 100000
set_option maxHeartbeats 4000000
attribute [local irreducible] OwnT DefS
/-- One more event. -/
def oneT (ev : Nat → Ev) (i : Nat) (s : Ga) : Ga × Nat × Int :=
  if evOk (ev i) = false then (s, i, 1) else if i ≠ 0 ∧ (ev i).s < (ev (i - 1)).s then (s, i, 7) else
    if ((passTF s (ev i).s).b.deed (ev i)).2 ≠ 0 then (s, i, ((passTF s (ev i).s).b.deed (ev i)).2)
    else (⟨((passTF s (ev i).s).b.deed (ev i)).1, (ev i).s, (passTF s (ev i).s).out⟩, i + 1, 0)
theorem playT_one (ev : Nat → Ev) (k i : Nat) (s : Ga) : playT ev 1048576 (k + 1) i s = if (oneT ev i s).2.2 = 0 then playT ev 1048576 k (i + 1) (oneT ev i s).1 else oneT ev i s := by
  unfold oneT
  conv => lhs; unfold playT
  by_cases h1 : evOk (ev i) = false
  · rw [if_pos h1, if_pos h1, if_neg (by simp)]
  have he := evOk_iff.1 (by simpa using h1)
  rw [if_neg h1, if_neg h1]
  by_cases h2 : i ≠ 0 ∧ (ev i).s < (ev (i - 1)).s
  · rw [if_pos h2, if_pos h2, if_neg (by simp)]
  rw [if_neg h2, if_neg h2, if_neg (show ¬ (1048576 : Int) < (ev i).s by omega)]
  by_cases h3 : ((passTF s (ev i).s).b.deed (ev i)).2 ≠ 0
  · rw [if_pos h3, if_pos h3, if_neg h3]
  · rw [if_neg h3, if_neg h3, if_pos rfl]
theorem playT_snoc (ev : Nat → Ev) : ∀ (k i : Nat) (s : Ga), playT ev 1048576 (k + 1) i s = if (playT ev 1048576 k i s).2.2 = 0 then oneT ev (i + k) (playT ev 1048576 k i s).1 else playT ev 1048576 k i s
  | 0, i, s => by
    rw [playT_one]
    simp only [playT, Nat.add_zero]
    split
    · rename_i h
      unfold oneT at h ⊢
      repeat' split at h
      all_goals first | cases h | exact absurd h ‹_› | skip
      rename_i a b c
      rw [if_neg a, if_neg b, if_neg c, if_pos trivial]
    · rw [if_pos trivial]
  | k + 1, i, s => by
    rw [playT_one ev (k + 1), playT_snoc ev k (i + 1), playT_one ev k i s]
    by_cases h : (oneT ev i s).2.2 = 0
    · simp only [if_pos h]
      rw [show i + 1 + k = i + (k + 1) by omega]
    · simp only [if_neg h]
/-- The state behind so many events, and its error. -/
def stA (ev : Nat → Ev) (k : Nat) : Ga := (playT ev 1048576 k 0 G0).1
def erA (ev : Nat → Ev) (k : Nat) : Int := (playT ev 1048576 k 0 G0).2.2
theorem erA_le {ev : Nat → Ev} {n : Nat} (h : erA ev n = 0) : ∀ k, k ≤ n → erA ev k = 0 := by
  induction n with
  | zero => intro k hk; obtain rfl : k = 0 := by omega
            exact h
  | succ n ih =>
    have h1 : erA ev n = 0 := by
      unfold erA at h ⊢
      rw [playT_snoc] at h
      by_cases q : (playT ev 1048576 n 0 G0).2.2 = 0
      · exact q
      · rw [if_neg q] at h; exact h
    intro k hk
    rcases Nat.lt_or_ge k (n + 1) with q | q
    · exact ih h1 k (by omega)
    · obtain rfl : k = n + 1 := by omega
      exact h
theorem stA_succ {ev : Nat → Ev} {k : Nat} (h : erA ev (k + 1) = 0) : evOk (ev k) = true ∧ (k ≠ 0 → (ev (k - 1)).s ≤ (ev k).s) ∧ ((passTF (stA ev k) (ev k).s).b.deed (ev k)).2 = 0 ∧
    stA ev (k + 1) = ⟨((passTF (stA ev k) (ev k).s).b.deed (ev k)).1, (ev k).s, (passTF (stA ev k) (ev k).s).out⟩ := by
  have h0 := erA_le h k (by omega)
  have e : playT ev 1048576 (k + 1) 0 G0 = oneT ev k (stA ev k) := by
    rw [playT_snoc, Nat.zero_add, if_pos (show (playT ev 1048576 k 0 G0).2.2 = 0 from h0)]; rfl
  unfold erA at h
  have e2 : stA ev (k + 1) = (oneT ev k (stA ev k)).1 := by rw [← e]; rfl
  rw [e] at h
  rw [e2]
  generalize stA ev k = s at h ⊢
  unfold oneT at h ⊢
  repeat' split at h
  all_goals first | cases h | exact absurd h ‹_› | skip
  rename_i a b c
  rw [if_neg a, if_neg b, if_neg c]
  exact ⟨by simpa using a, fun q => by omega, by simpa using c, rfl⟩
theorem stA_now {ev : Nat → Ev} {k : Nat} (h : erA ev (k + 1) = 0) : (stA ev (k + 1)).now = (ev k).s := by rw [(stA_succ h).2.2.2]
theorem ev_mono {ev : Nat → Ev} {n : Nat} (h : erA ev n = 0) : ∀ k, k < n → ∀ j, j ≤ k → (ev j).s ≤ (ev k).s
  | 0, _, j, hj => by obtain rfl : j = 0 := by omega
                      exact Int.le_refl _
  | k + 1, hk, j, hj => by
    rcases Nat.lt_or_ge j (k + 1) with q | q
    · have h1 := ev_mono h k (by omega) j (by omega)
      have h2 := (stA_succ (erA_le h (k + 2) (by omega))).2.1 (by omega)
      rw [Nat.add_sub_cancel] at h2
      omega
    · obtain rfl : j = k + 1 := by omega
      exact Int.le_refl _
/-- Up to a second that none of the events is behind. -/
theorem playT_all {ev : Nat → Ev} {to : Int} (hto : to ≤ 1048576) : ∀ (k i : Nat) (s : Ga), (∀ j, i ≤ j → j < i + k → (ev j).s ≤ to) → playT ev to k i s = playT ev 1048576 k i s
  | 0, i, s, _ => rfl
  | k + 1, i, s, h => by
    have h1 := h i (by omega) (by omega)
    unfold playT
    rw [if_neg (show ¬ to < (ev i).s by omega), if_neg (show ¬ (1048576 : Int) < (ev i).s by omega), playT_all hto k (i + 1) _ (fun j a b => h j (by omega) (by omega))]
theorem plT_eq {k : Nat} {l : Nat → Nat → Int} (hk : k ≤ 256) (h : erA (evN l) k = 0) : plT k l = ((stA (evN l) k).b, (k : Int), 0) := by
  unfold plT
  rw [if_neg (by omega), if_neg (show ¬ (playT (evN l) 1048576 k 0 G0).2.2 ≠ 0 from fun q => q h)]
  have := ((rel_play (ev := evN l) k 0 G0 G0 rel0 G0_ok G0_cnt (by omega)).2.2 h).1
  rw [this, Nat.zero_add]
  rfl
theorem plT_er {k : Nat} {l : Nat → Nat → Int} (hk : k ≤ 256) : (plT k l).2.2 = erA (evN l) k := by
  by_cases h : erA (evN l) k = 0
  · rw [plT_eq hk h, h]
  · unfold plT
    rw [if_neg (by omega), if_pos (show (playT (evN l) 1048576 k 0 G0).2.2 ≠ 0 from h)]
    rfl
theorem agT_sec {k : Nat} {l : Nat → Nat → Int} {to : Int} (hk : k ≤ 256) (h : erA (evN l) k = 0) (h0 : 0 ≤ to) (hto : to ≤ 1048576) (ht : ∀ j, j < k → (evN l j).s ≤ to) : agT k l to = (passTF (stA (evN l) k) to, 0) := by
  unfold agT
  rw [if_neg (by rw [plT_er hk, h]; simp), if_neg (by rw [in3_iff.2 ⟨h0, hto⟩]; simp), playT_all hto k 0 G0 (fun j _ b => ht j (by omega))]
  rfl
theorem stA_ok {ev : Nat → Ev} {k : Nat} (hk : k ≤ 256) : (stA ev k).Ok := playT_ok (ev := ev) (to := 1048576) k 0 G0 G0_ok G0_cnt (by omega)
/-- So many seconds of a team's penalties. -/
def itS : Nat → List Pen → List Pen
  | 0, l => l
  | m + 1, l => itS m (goneS 1 l)
theorem passT_it {to : Int} : ∀ (m : Nat) (s : Ga), (0 < m → s.b.run = true ∧ s.b.pl + m ≤ 1200) → s.now + m = to → (passT m s to).b.p0 = itS m s.b.p0 ∧ (passT m s to).b.p1 = itS m s.b.p1
  | 0, s, _, _ => ⟨rfl, rfl⟩
  | m + 1, s, h, hn => by
    obtain ⟨h1, h2⟩ := h (by omega)
    simp only [passT]
    rw [if_pos ⟨h1, by omega⟩]
    exact passT_it m s.tick (fun q => ⟨by simp only [Ga.tick, Bo.pass, decide_eq_true_eq]; omega, by simp only [Ga.tick, Bo.pass]; omega⟩) (by simp only [Ga.tick]; omega)
theorem wholeT_bd : ∀ (f : Nat) (l : List Pen), 0 ≤ wholeT f l ∧ wholeT f l ≤ f
  | 0, l => ⟨Int.le_refl _, Int.le_refl _⟩
  | f + 1, l => by
    have := wholeT_bd f (goneS 1 l)
    unfold wholeT
    split <;> omega
theorem wholeT_it : ∀ (f : Nat) (l : List Pen), (wholeT f l < f → itS (wholeT f l).toNat l = []) ∧ ∀ m : Nat, (m : Int) < wholeT f l → itS m l ≠ []
  | 0, l => ⟨fun h => absurd h (by simp [wholeT]), fun m h => absurd h (by simp [wholeT])⟩
  | f + 1, l => by
    obtain ⟨a, b⟩ := wholeT_it f (goneS 1 l)
    obtain ⟨c, d⟩ := wholeT_bd f (goneS 1 l)
    unfold wholeT
    split
    · rename_i h; exact ⟨fun _ => by rw [h]; rfl, fun m hm => by omega⟩
    · rename_i h
      refine ⟨fun q => ?_, fun m hm => ?_⟩
      · rw [show (1 + wholeT f (goneS 1 l)).toNat = (wholeT f (goneS 1 l)).toNat + 1 by omega]
        exact a (by omega)
      · cases m with
        | zero => exact h
        | succ m => exact b m (by omega)
end Go.Eng
end

/- clock: Whole from a game (plain). -/
section
namespace Go.Eng
open Go Go.RowKit Go.Proofs
set_option maxRecDepth 100000
set_option maxHeartbeats 4000000
attribute [local irreducible] OwnT DefS
/-- Penalties as events give them. -/
def pkL (l : List Pen) : Prop := ∀ p ∈ l, (0 ≤ p.a ∧ p.a ≤ 4095) ∧ p.l ≤ 300
def Bo.Pk (b : Bo) : Prop := pkL b.p0 ∧ pkL b.p1
theorem goneW_mem {m : Nat} {w : Nat → Int} {n : Int} {l : List Pen} (hn : 0 ≤ n) {p : Pen} (hp : p ∈ goneW m w n l) : ∃ q ∈ l, p.a = q.a ∧ p.k = q.k ∧ p.l ≤ q.l := by
  simp only [goneW, List.mem_filter] at hp
  obtain ⟨i, hi, rfl⟩ := mem_pl hp.1
  refine ⟨_, pf_mem hi, ?_, ?_, ?_⟩
  · simp [pn]
  · simp [pn]
  · simp only [pn]; split <;> omega
theorem goneS_pk {n : Int} {l : List Pen} (hn : 0 ≤ n) (h : pkL l) : pkL (goneS n l) := fun p hp => by
  obtain ⟨q, hq, h1, _, h3⟩ := goneW_mem hn hp
  have := h q hq
  omega
theorem passT_pk {to : Int} : ∀ (k : Nat) (s : Ga), s.b.Pk → (passT k s to).b.Pk
  | 0, s, h => h
  | k + 1, s, h => by
    simp only [passT]
    split
    · exact passT_pk k _ ⟨goneS_pk (by omega) h.1, goneS_pk (by omega) h.2⟩
    · exact h
theorem goal_pk {l : List Pen} (h : pkL l) : pkL (goalL l) := fun p hp => h p ((goalL_sub l).2 p hp)
theorem gives_pk {k p : Int} (h : 0 ≤ p ∧ p ≤ 4095) : pkL (gives k p) := by
  unfold gives pkL
  repeat' split
  all_goals simp
  all_goals omega
theorem app_pk {l k : List Pen} (h : pkL l) (h2 : pkL k) : pkL (l ++ k) := fun p hp => by
  rcases List.mem_append.1 hp with q | q
  · exact h p q
  · exact h2 p q
theorem deed_pk {b : Bo} (h : b.Pk) {x : Ev} (hx : evOk x = true) : (b.deed x).1.Pk := by
  have he := evOk_iff.1 hx
  obtain ⟨h1, h2⟩ := h
  have g1 := goal_pk h1
  have g2 := goal_pk h2
  have a1 : ¬ x.k = 0 → ¬ x.k = 1 → ¬ x.k = 2 → pkL (b.p0 ++ gives x.k x.p) := fun _ _ _ => app_pk h1 (gives_pk (by omega))
  have a2 : ¬ x.k = 0 → ¬ x.k = 1 → ¬ x.k = 2 → pkL (b.p1 ++ gives x.k x.p) := fun _ _ _ => app_pk h2 (gives_pk (by omega))
  unfold Bo.deed Bo.start Bo.stop Bo.goal Bo.give
  repeat' split
  all_goals constructor
  all_goals dsimp only
  all_goals first | exact h1 | exact h2 | exact g1 | exact g2 | exact a1 ‹_› ‹_› ‹_› | exact a2 ‹_› ‹_› ‹_› | (split <;> first | exact h1 | exact h2 | exact g1 | exact g2)
theorem stA_pk {ev : Nat → Ev} : ∀ {k : Nat}, erA ev k = 0 → (stA ev k).b.Pk
  | 0, _ => ⟨fun p hp => by simp [stA, playT, G0, Bo.z] at hp, fun p hp => by simp [stA, playT, G0, Bo.z] at hp⟩
  | k + 1, h => by
    obtain ⟨h1, _, _, h2⟩ := stA_succ h
    rw [h2]
    exact deed_pk (passT_pk _ _ (stA_pk (erA_le h k (by omega)))) h1
theorem stA_cnt {ev : Nat → Ev} : ∀ {k : Nat}, erA ev k = 0 → (stA ev k).b.Cnt k
  | 0, _ => G0_cnt
  | k + 1, h => by
    obtain ⟨h1, _, _, h2⟩ := stA_succ h
    rw [h2]
    exact deed_cnt (passT_cnt _ _ (stA_cnt (erA_le h k (by omega)))) _
theorem okL_of {l : List Pen} (h : lOk l) (h2 : pkL l) (hl : l.length ≤ 256) : okL l = true := by
  unfold okL
  rw [decide_eq_true hl, Bool.true_and, Bool.not_eq_true']
  cases e : anyB (pf l) l.length
  · rfl
  · obtain ⟨i, hi, hb⟩ := anyB_iff.1 e
    have h3 := h.2 _ (pf_mem hi)
    have h4 := h2 _ (pf_mem hi)
    simp only at h3 h4
    simp only [badF, Bool.not_eq_true', Bool.and_eq_false_iff, in3_false] at hb
    omega
def Bo.pt (b : Bo) (t : Int) : List Pen := if t = 0 then b.p0 else b.p1
theorem whole_st {ev : Nat → Ev} {k : Nat} (h : erA ev k = 0) (hk : k ≤ 60) {t : Int} (ht : t = 0 ∨ t = 1) : ∃ w : Nat, w ≤ 76800 ∧ wholeRT (stA ev k).b.p0 (stA ev k).b.p1 t = ((w : Int), 0) ∧ itS w ((stA ev k).b.pt t) = [] ∧ (∀ m, m < w → itS m ((stA ev k).b.pt t) ≠ []) ∧ ((w : Int) = 0 ↔ (stA ev k).b.pt t = []) := by
  have hok := (stA_ok (ev := ev) (k := k) (by omega)).b
  have hpk := stA_pk h
  have hc := stA_cnt h
  have c0 := hc.p0
  have c1 := hc.p1
  have e : wholeRT (stA ev k).b.p0 (stA ev k).b.p1 t = (wholeT 76800 ((stA ev k).b.pt t), 0) := by
    unfold wholeRT Bo.pt
    rw [okL_of hok.p0 hpk.1 (by omega), okL_of hok.p1 hpk.2 (by omega), if_neg (by simp), if_neg (by rw [in3_iff.2 (by omega)]; simp)]
    split <;> rfl
  rw [e]
  have hl : lOk ((stA ev k).b.pt t) ∧ (∀ p ∈ (stA ev k).b.pt t, p.l ≤ 300) ∧ ((stA ev k).b.pt t).length ≤ 120 := by
    unfold Bo.pt
    split
    · exact ⟨hok.p0, fun p hp => (hpk.1 p hp).2, by omega⟩
    · exact ⟨hok.p1, fun p hp => (hpk.2 p hp).2, by omega⟩
  generalize (stA ev k).b.pt t = l at hl
  obtain ⟨f, hf⟩ : ∃ f : Nat, f = 76799 := ⟨_, rfl⟩
  rw [show 76800 = f + 1 by omega]
  have e1 : wholeT (f + 1) l = wholeT f l := by
    rw [← whole_wholeT l.length f l hl.1 hl.2.1 (Nat.le_refl _) (by omega), ← whole_wholeT l.length (f + 1) l hl.1 hl.2.1 (Nat.le_refl _) (by omega)]
  have b1 := wholeT_bd f l
  obtain ⟨i1, i2⟩ := wholeT_it (f + 1) l
  refine ⟨(wholeT (f + 1) l).toNat, by omega, ?_, i1 (by omega), fun m hm => i2 m (by omega), ?_⟩
  · rw [Int.toNat_of_nonneg (by omega)]
  · rw [Int.toNat_of_nonneg (by omega)]
    have b2 := wholeT_bd f (goneS 1 l)
    unfold wholeT
    split
    · rename_i q; simp [q]
    · rename_i q; exact ⟨fun r => by omega, fun r => absurd r q⟩
/-- Behind one more start. -/
theorem whole_on {l on : Nat → Nat → Int} {n : Nat} (hn : n ≤ 60) (hE : erA (evN l) n = 0) (h0 : n ≠ 0) (hr : (stA (evN l) n).b.run = false) (hon : ∀ i, i < n → evN on i = evN l i) (hst : evN on n = ⟨0, (evN l (n - 1)).s, 0, 0⟩)
    {w : Nat} (hw : w ≠ 0) (hpl : (if (stA (evN l) n).b.pl = 1200 then 0 else (stA (evN l) n).b.pl) + w ≤ 1200) (hs : (evN l (n - 1)).s + w ≤ 1048576) :
    ((stA (evN l) n).b.per = 2 ∧ ∀ to, (agT (n + 1) on to).2 = 9) ∨ (∀ m : Nat, m ≤ w → (agT (n + 1) on ((evN l (n - 1)).s + m)).2 = 0 ∧ (agT (n + 1) on ((evN l (n - 1)).s + m)).1.b.p0 = itS m (stA (evN l) n).b.p0 ∧ (agT (n + 1) on ((evN l (n - 1)).s + m)).1.b.p1 = itS m (stA (evN l) n).b.p1) := by
  obtain ⟨k, rfl⟩ : ∃ k, n = k + 1 := ⟨n - 1, by omega⟩
  rw [Nat.add_sub_cancel] at *
  have hnow := stA_now hE
  have hok := stA_ok (ev := evN l) (k := k + 1) (by omega)
  have hs0 := hok.now
  rw [hnow] at hs0
  have hmono := ev_mono hE k (by omega)
  have ec : playT (evN on) 1048576 (k + 1) 0 G0 = playT (evN l) 1048576 (k + 1) 0 G0 := playT_congr _ _ _ (fun j hj => hon j (by omega))
  have e1 : erA (evN on) (k + 1) = 0 := by unfold erA; rw [ec]; exact hE
  have e2 : stA (evN on) (k + 1) = stA (evN l) (k + 1) := by unfold stA; rw [ec]
  have e3 : playT (evN on) 1048576 (k + 1 + 1) 0 G0 = oneT (evN on) (k + 1) (stA (evN l) (k + 1)) := by
    rw [playT_snoc, Nat.zero_add, if_pos (show (playT (evN on) 1048576 (k + 1) 0 G0).2.2 = 0 from e1)]
    exact congrArg _ e2
  generalize hS : stA (evN l) (k + 1) = S at *
  have hp : passTF S (evN l k).s = ⟨S.b, (evN l k).s, S.out⟩ := by
    unfold passTF
    rw [hnow, Int.sub_self]; rfl
  have e4 : oneT (evN on) (k + 1) S = if (S.b.start).2 ≠ 0 then (S, k + 1, (S.b.start).2) else (⟨(S.b.start).1, (evN l k).s, S.out⟩, k + 1 + 1, 0) := by
    unfold oneT
    rw [hst, if_neg (by rw [evOk_iff.2 ⟨by simp, by simpa using hs0, by simp, by simp⟩]; simp), if_neg (by rw [Nat.add_sub_cancel, hon k (by omega)]; simp)]
    simp only [hp, Bo.deed, if_true]
  rw [e4] at e3
  by_cases hf : S.b.pl = 1200 ∧ ¬ S.b.per < 2
  · left
    have hst9 : S.b.start = (S.b, 9) := by unfold Bo.start; rw [if_neg (by simp [hr]), if_pos hf.1, if_neg hf.2]
    rw [hst9, if_pos (by simp)] at e3
    have hper := hok.b.per
    refine ⟨by omega, fun to => ?_⟩
    have : (plT (k + 1 + 1) on).2.2 = 9 := by rw [plT_er (by omega)]; unfold erA; rw [e3]
    unfold agT
    rw [if_pos (by rw [this]; simp), this]
  · right
    have hst0 : (S.b.start).2 = 0 ∧ (S.b.start).1.run = true ∧ (S.b.start).1.pl = (if S.b.pl = 1200 then 0 else S.b.pl) ∧ (S.b.start).1.p0 = S.b.p0 ∧ (S.b.start).1.p1 = S.b.p1 := by
      unfold Bo.start
      rw [if_neg (by simp [hr])]
      by_cases q : S.b.pl = 1200
      · rw [if_pos q, if_pos (by omega), if_pos q]; exact ⟨rfl, rfl, rfl, rfl, rfl⟩
      · rw [if_neg q, if_neg q]; exact ⟨rfl, rfl, rfl, rfl, rfl⟩
    obtain ⟨s1, s2, s3, s4, s5⟩ := hst0
    rw [s1, if_neg (by simp)] at e3
    have x1 : erA (evN on) (k + 1 + 1) = 0 := by unfold erA; rw [e3]
    have x2 : stA (evN on) (k + 1 + 1) = ⟨(S.b.start).1, (evN l k).s, S.out⟩ := by unfold stA; rw [e3]
    intro m hm
    have hm2 : (m : Int) ≤ w := by omega
    rw [agT_sec (by omega) x1 (by omega) (by omega) (fun j hj => by
      rcases Nat.lt_or_ge j (k + 1) with q | q
      · rw [hon j q]; have := hmono j (by omega); omega
      · obtain rfl : j = k + 1 := by omega
        rw [hst]; simp only []; omega), x2]
    refine ⟨rfl, ?_⟩
    have := passT_it (to := (evN l k).s + m) m ⟨(S.b.start).1, (evN l k).s, S.out⟩ (fun q => ⟨s2, by simp only [s3]; omega⟩) rfl
    simp only [s4, s5] at this
    unfold passTF
    rw [show ((evN l k).s + (m : Int) - (evN l k).s).toNat = m by omega]
    exact this
end Go.Eng
end

/- clock: ClockWhole. -/
section
namespace Go.Eng
open Go Go.RowKit Go.Proofs
set_option maxRecDepth 100000
set_option maxHeartbeats 4000000
attribute [local irreducible] OwnT DefS
theorem plT_congr {l l' : Nat → Nat → Int} {n : Nat} (h : ∀ i j, i < n → j < 4 → l i j = l' i j) : plT n l = plT n l' := by rw [← plR_plT, ← plR_plT, plR_congr h]
theorem agT_congr {l l' : Nat → Nat → Int} {n : Nat} {to : Int} (h : ∀ i j, i < n → j < 4 → l i j = l' i j) : agT n l to = agT n l' to := by
  unfold agT
  rw [plT_congr h, playT_congr n 0 G0 (fun j hj => evN_congr h j (by omega))]
/-- One event more. -/
def onL (n : Nat) (l : Nat → Nat → Int) (a b c d : Int) (i j : Nat) : Int := if i < n then l i j else if j = 0 then a else if j = 1 then b else if j = 2 then c else d
def onV (n : Nat) (l : Nat → Nat → Int) (a b c d : Int) (i j : Nat) : SV := catF n (fun i j => .int .i64 (l i j)) (oneF [.int .i64 a, .int .i64 b, .int .i64 c, .int .i64 d]) i j
theorem frz_on (k : Nat) (h : HS) (n : Nat) (l : Nat → Nat → Int) (a b c d : Int) (i j : Nat) (A : Nat → Nat → SV) : frzF (k + 1) h (catF n (catF 0 A (fun i j => .int .i64 (l i j))) (oneF [.int .i64 a, .int .i64 b, .int .i64 c, .int .i64 d]) i j) = onV n l a b c d i j := by
  unfold onV catF oneF
  simp only [Nat.not_lt_zero, if_false, Nat.sub_zero]
  split
  · rfl
  · match j with
    | 0 => rfl
    | 1 => rfl
    | 2 => rfl
    | 3 => rfl
    | j + 4 => rfl
theorem onV_int {n : Nat} {l : Nat → Nat → Int} {a b c d : Int} {i j : Nat} (hi : i < n + 1) (hj : j < 4) : onV n l a b c d i j = .int .i64 (onL n l a b c d i j) := by
  unfold onV onL catF oneF
  split
  · rfl
  · match j, hj with
    | 0, _ => rfl
    | 1, _ => rfl
    | 2, _ => rfl
    | 3, _ => rfl
theorem intR_on (n : Nat) (l : Nat → Nat → Int) (a b c d : Int) : IntR (n + 1) 4 (fun i j => onV n l a b c d i j) = True := eq_true (fun i j hi hj => by show onV n l a b c d i j = .int .i64 (iv (onV n l a b c d i j)); rw [onV_int hi hj]; rfl)
theorem agT_on (n : Nat) (l : Nat → Nat → Int) (a b c d : Int) (to : Int) : agT (n + 1) (ivf fun i j => onV n l a b c d i j) to = agT (n + 1) (onL n l a b c d) to :=
  agT_congr (fun i j hi hj => by show iv (onV n l a b c d i j) = _; rw [onV_int hi hj]; rfl)
theorem wf_byt {w : Int} (h : (Lit.int .u8 w).wf = true) : 0 ≤ w ∧ w ≤ 255 := by
  have : (decide (IntKind.min .u8 ≤ w) && decide (w ≤ IntKind.max .u8)) = true := h
  have h1 : IntKind.min .u8 = 0 := by decide
  have h2 : IntKind.max .u8 = 255 := by decide
  rw [h1, h2] at this
  simpa using this
theorem spl_no {q : Bool} {A B : Prop} (h : q = false) (hb : B) : spl q A B := ⟨fun h' => (by rw [h] at h'; cases h'), fun _ => hb⟩
def clockWholeBase : BaseF := fun args => match args with
  | [.row n sz_l f_l, .int .u8 team] => some ((sz_l = 4 ∧ IntR n 4 f_l) ∧ ((Lit.int .u8 team).wf = true), .bool true)
  | _ => none
theorem clockWhole_eq (n : Nat) (sz_l : Nat) (f_l : Nat → Nat → SV) (team : Int) : clockWholeBase [.row n sz_l f_l, .int .u8 team] = some ((sz_l = 4 ∧ IntR n 4 f_l) ∧ ((Lit.int .u8 team).wf = true), .bool true) := rfl
theorem clockWhole_base : Base Try.prog 3 clockWholeBase := by
  intro args p v hq hp
  unfold clockWholeBase at hq
  split at hq
  rotate_left
  · cases hq
  rename_i n sz_l f_l team
  cases hq
  obtain ⟨⟨rfl, i_l⟩, wf_team⟩ := hp
  refine base_of (C := cx [] [] [(11, aliveBase), (12, playBase), (13, wholeBase), (14, atBase)] [] none) (cx_ok trivial ⟨alive_base, play_base, whole_base, at_base, trivial⟩) rfl (g := 3) (fn := Try.f3)
    (args' := [.row n 4 (rowF .i64 (ivf f_l)), .int .u8 team]) (fn_3) rfl 1000 (by
    simp only [BdL, Bd, and_self, and_true, true_and]
    exact (fun i j hi hj => by rw [i_l i j hi hj]; trivial)) ⟨SameD.int i_l, SameD.rfl' _, trivial⟩ ?_
  generalize ivf f_l = l
  simp only [rowF_eq]
  simp only [alive_eq, play_eq, whole_eq, at_eq, boS, rowP, pl_pf, plR_plT, atR_agT, wholeR_wholeRT, Try.f3, go_sem, ↓reduceIte, Nat.reduceAdd, Nat.reduceSub, Nat.reduceMul, Nat.reduceEqDiff, Nat.reduceLT, Nat.reduceLeDiff, Int.reduceToNat, Int.reduceLE, Int.reduceLT, Int.reduceEq, Int.reduceNeg, reduceCtorEq]
  have hT : IntKind.i64.wrap team = team ∧ (team.tmod 2 = 0 ∨ team.tmod 2 = 1) := by
    have := wf_byt wf_team
    exact ⟨wrap_id (by omega) (by omega), by rw [Int.tmod_eq_emod_of_nonneg this.1]; omega⟩
  rw [hT.1]
  refine spl_intro (fun e1 => trivial) (fun e1 => ?_)
  have hn : n ≤ 60 := by simp only [decide_eq_false_iff_not] at e1; omega
  refine ⟨by omega, by omega, ?_⟩
  refine spl_intro (fun e2 => trivial) (fun e2 => ?_)
  refine spl_intro (fun e3 => trivial) (fun e3 => ?_)
  refine spl_intro (fun e4 => trivial) (fun e4 => ?_)
  have hsm := plT_sm n l
  unfold Bo.Sm at hsm
  refine ⟨by omega, ?_⟩
  rw [Bool.not_eq_false', decide_eq_true_eq] at e2
  have hE : erA (evN l) n = 0 := by rw [← plT_er (by omega)]; exact e2
  rw [plT_eq (by omega) hE] at e4
  simp only at e4
  simp only [plT_eq (show n ≤ 256 by omega) hE]
  obtain ⟨k, rfl⟩ : ∃ k, n = k + 1 := ⟨n - 1, by simp only [decide_eq_false_iff_not] at e3; omega⟩
  have hok := (stA_ok (ev := evN l) (k := k + 1) (by omega)).b
  have hpl := hok.pl
  have hev := evOk_iff.1 (stA_succ hE).1
  have hs0 : 0 ≤ l k 1 ∧ l k 1 ≤ 1048576 := hev.2.1
  have wk : IntKind.i64.wrap (((k + 1 : Nat) : Int) - 1) = (k : Int) := by rw [wrap_id (by omega) (by omega)]; omega
  rcases hT.2 with hT2 | hT2
  · rw [hT2]
    obtain ⟨w, w0, w1, w2, w3, w4⟩ := whole_st hE hn (t := 0) (by omega)
    have ww := whole_on (on := onL (k + 1) l 0 (l k 1) 0 0) hn hE (by omega) e4 (fun i hi => by simp [evN, onL, hi]) (by simp [evN, onL]) (w := w)
    have x1 : IntKind.i64.wrap (0 + (w : Int)) = w := by rw [wrap_id (by omega) (by omega)]; omega
    have x2 : IntKind.i64.wrap ((stA (evN l) (k + 1)).b.pl + (w : Int)) = (stA (evN l) (k + 1)).b.pl + w := wrap_id (by omega) (by omega)
    have x3 : IntKind.i64.wrap (l k 1 + (w : Int)) = l k 1 + w := wrap_id (by omega) (by omega)
    have x4 : IntKind.i64.wrap (l k 1 + (w : Int) - 1) = l k 1 + w - 1 := wrap_id (by omega) (by omega)
    rw [w1]
    simp only [boS, rowP, pl_pf, wk, x1, x2, x3, x4, Int.toNat_natCast, frz_on, intR_on, agT_on, alive_eq, play_eq, whole_eq, at_eq, boS, rowP, pl_pf, plR_plT, atR_agT, wholeR_wholeRT, Try.f3, go_sem, ↓reduceIte, Nat.reduceAdd, Nat.reduceSub, Nat.reduceMul, Nat.reduceEqDiff, Nat.reduceLT, Nat.reduceLeDiff, Int.reduceToNat, Int.reduceLE, Int.reduceLT, Int.reduceEq, Int.reduceNeg, reduceCtorEq]
    have y0 : (stA (evN l) (k + 1)).b.pt 0 = (stA (evN l) (k + 1)).b.p0 := by unfold Bo.pt; first | rw [if_pos rfl] | rw [if_neg (by omega)]
    rw [y0] at w2 w3 w4
    have y1 : ((w : Int) = 0) ↔ (((stA (evN l) (k + 1)).b.p0.length : Nat) : Int) = 0 := by rw [w4, ← List.length_eq_zero_iff]; omega
    have y2 : (!(decide ((w : Int) = 0) == decide ((((stA (evN l) (k + 1)).b.p0.length : Nat) : Int) = 0))) = false := by
      by_cases q : (w : Int) = 0
      · rw [decide_eq_true q, decide_eq_true (y1.1 q)]; rfl
      · rw [decide_eq_false q, decide_eq_false (fun r => q (y1.2 r))]; rfl
    have key : w ≠ 0 → (if (stA (evN l) (k + 1)).b.pl = 1200 then 0 else (stA (evN l) (k + 1)).b.pl) + w ≤ 1200 → l k 1 + w ≤ 1048576 →
        ((stA (evN l) (k + 1)).b.per = 2 ∧ (agT (k + 1 + 1) (onL (k + 1) l 0 (l k 1) 0 0) (l k 1 + w)).2 = 9 ∧ (agT (k + 1 + 1) (onL (k + 1) l 0 (l k 1) 0 0) (l k 1 + w - 1)).2 = 9) ∨
        ((agT (k + 1 + 1) (onL (k + 1) l 0 (l k 1) 0 0) (l k 1 + w)).2 = 0 ∧ (agT (k + 1 + 1) (onL (k + 1) l 0 (l k 1) 0 0) (l k 1 + w - 1)).2 = 0 ∧ (((agT (k + 1 + 1) (onL (k + 1) l 0 (l k 1) 0 0) (l k 1 + w)).1.b.p0.length : Nat) : Int) = 0 ∧ (0 : Int) < (((agT (k + 1 + 1) (onL (k + 1) l 0 (l k 1) 0 0) (l k 1 + w - 1)).1.b.p0.length : Nat) : Int)) := fun a b c => by
      rcases ww a b c with ⟨h1, h2⟩ | h
      · exact .inl ⟨h1, h2 _, h2 _⟩
      · right
        have q1 := h w (by omega)
        have q2 := h (w - 1) (by omega)
        have es : (evN l (k + 1 - 1)).s = l k 1 := rfl
        rw [es] at q1 q2
        rw [show l k 1 + ((w - 1 : Nat) : Int) = l k 1 + w - 1 by omega] at q2
        refine ⟨q1.1, q2.1, ?_, ?_⟩
        · rw [q1.2.1, w2]; rfl
        · rw [q2.2.1]
          have := w3 (w - 1) (by omega)
          have := List.length_pos_iff.2 this
          omega
    clear ww
    refine spl_no (decide_eq_false (by omega)) ⟨by omega, spl_no y2 ⟨⟨by omega, by omega⟩, ?_⟩⟩
    refine spl_intro (fun f0 => ?_) (fun f0 => ?_)
    all_goals
      simp only [decide_eq_true_eq, decide_eq_false_iff_not] at f0
      refine spl_intro (fun _ => trivial) (fun f1 => spl_intro (fun _ => trivial) (fun f2 => spl_intro (fun _ => trivial) (fun f3 => ⟨by omega, by omega, spl_no (decide_eq_false (by omega)) ⟨by omega, by omega, ?_⟩⟩)))
      simp only [decide_eq_false_iff_not] at f1 f2 f3
      rcases key (by omega) (by first | (rw [if_pos f0]; omega) | (rw [if_neg f0]; omega)) (by omega) with ⟨h1, h2, h3⟩ | ⟨h1, h2, h3, h4⟩
      · simp [spl, h1, h2, h3]
      · simp only [h1, h2, h3, decide_eq_true h4]
        simp [spl]
  · rw [hT2]
    obtain ⟨w, w0, w1, w2, w3, w4⟩ := whole_st hE hn (t := 1) (by omega)
    have ww := whole_on (on := onL (k + 1) l 0 (l k 1) 0 0) hn hE (by omega) e4 (fun i hi => by simp [evN, onL, hi]) (by simp [evN, onL]) (w := w)
    have x1 : IntKind.i64.wrap (0 + (w : Int)) = w := by rw [wrap_id (by omega) (by omega)]; omega
    have x2 : IntKind.i64.wrap ((stA (evN l) (k + 1)).b.pl + (w : Int)) = (stA (evN l) (k + 1)).b.pl + w := wrap_id (by omega) (by omega)
    have x3 : IntKind.i64.wrap (l k 1 + (w : Int)) = l k 1 + w := wrap_id (by omega) (by omega)
    have x4 : IntKind.i64.wrap (l k 1 + (w : Int) - 1) = l k 1 + w - 1 := wrap_id (by omega) (by omega)
    rw [w1]
    simp only [boS, rowP, pl_pf, wk, x1, x2, x3, x4, Int.toNat_natCast, frz_on, intR_on, agT_on, alive_eq, play_eq, whole_eq, at_eq, boS, rowP, pl_pf, plR_plT, atR_agT, wholeR_wholeRT, Try.f3, go_sem, ↓reduceIte, Nat.reduceAdd, Nat.reduceSub, Nat.reduceMul, Nat.reduceEqDiff, Nat.reduceLT, Nat.reduceLeDiff, Int.reduceToNat, Int.reduceLE, Int.reduceLT, Int.reduceEq, Int.reduceNeg, reduceCtorEq]
    have y0 : (stA (evN l) (k + 1)).b.pt 1 = (stA (evN l) (k + 1)).b.p1 := by unfold Bo.pt; first | rw [if_pos rfl] | rw [if_neg (by omega)]
    rw [y0] at w2 w3 w4
    have y1 : ((w : Int) = 0) ↔ (((stA (evN l) (k + 1)).b.p1.length : Nat) : Int) = 0 := by rw [w4, ← List.length_eq_zero_iff]; omega
    have y2 : (!(decide ((w : Int) = 0) == decide ((((stA (evN l) (k + 1)).b.p1.length : Nat) : Int) = 0))) = false := by
      by_cases q : (w : Int) = 0
      · rw [decide_eq_true q, decide_eq_true (y1.1 q)]; rfl
      · rw [decide_eq_false q, decide_eq_false (fun r => q (y1.2 r))]; rfl
    have key : w ≠ 0 → (if (stA (evN l) (k + 1)).b.pl = 1200 then 0 else (stA (evN l) (k + 1)).b.pl) + w ≤ 1200 → l k 1 + w ≤ 1048576 →
        ((stA (evN l) (k + 1)).b.per = 2 ∧ (agT (k + 1 + 1) (onL (k + 1) l 0 (l k 1) 0 0) (l k 1 + w)).2 = 9 ∧ (agT (k + 1 + 1) (onL (k + 1) l 0 (l k 1) 0 0) (l k 1 + w - 1)).2 = 9) ∨
        ((agT (k + 1 + 1) (onL (k + 1) l 0 (l k 1) 0 0) (l k 1 + w)).2 = 0 ∧ (agT (k + 1 + 1) (onL (k + 1) l 0 (l k 1) 0 0) (l k 1 + w - 1)).2 = 0 ∧ (((agT (k + 1 + 1) (onL (k + 1) l 0 (l k 1) 0 0) (l k 1 + w)).1.b.p1.length : Nat) : Int) = 0 ∧ (0 : Int) < (((agT (k + 1 + 1) (onL (k + 1) l 0 (l k 1) 0 0) (l k 1 + w - 1)).1.b.p1.length : Nat) : Int)) := fun a b c => by
      rcases ww a b c with ⟨h1, h2⟩ | h
      · exact .inl ⟨h1, h2 _, h2 _⟩
      · right
        have q1 := h w (by omega)
        have q2 := h (w - 1) (by omega)
        have es : (evN l (k + 1 - 1)).s = l k 1 := rfl
        rw [es] at q1 q2
        rw [show l k 1 + ((w - 1 : Nat) : Int) = l k 1 + w - 1 by omega] at q2
        refine ⟨q1.1, q2.1, ?_, ?_⟩
        · rw [q1.2.2, w2]; rfl
        · rw [q2.2.2]
          have := w3 (w - 1) (by omega)
          have := List.length_pos_iff.2 this
          omega
    clear ww
    refine spl_no (decide_eq_false (by omega)) ⟨by omega, spl_no y2 ⟨⟨by omega, by omega⟩, ?_⟩⟩
    refine spl_intro (fun f0 => ?_) (fun f0 => ?_)
    all_goals
      simp only [decide_eq_true_eq, decide_eq_false_iff_not] at f0
      refine spl_intro (fun _ => trivial) (fun f1 => spl_intro (fun _ => trivial) (fun f2 => spl_intro (fun _ => trivial) (fun f3 => ⟨by omega, by omega, spl_no (decide_eq_false (by omega)) ⟨by omega, by omega, ?_⟩⟩)))
      simp only [decide_eq_false_iff_not] at f1 f2 f3
      rcases key (by omega) (by first | (rw [if_pos f0]; omega) | (rw [if_neg f0]; omega)) (by omega) with ⟨h1, h2, h3⟩ | ⟨h1, h2, h3, h4⟩
      · simp [spl, h1, h2, h3]
      · simp only [h1, h2, h3, decide_eq_true h4]
        simp [spl]
end Go.Eng
end

/- clock: two penalties of the two teams in another order; what is shown (plain). -/
section
namespace Go.Eng
open Go Go.RowKit Go.Proofs
set_option maxRecDepth 100000
set_option maxHeartbeats 4000000
attribute [local irreducible] OwnT DefS
theorem oneT_ok {ev : Nat → Ev} {i : Nat} {s : Ga} (h1 : evOk (ev i) = true) (h2 : i ≠ 0 → (ev (i - 1)).s ≤ (ev i).s) (h3 : ((passTF s (ev i).s).b.deed (ev i)).2 = 0) :
    oneT ev i s = (⟨((passTF s (ev i).s).b.deed (ev i)).1, (ev i).s, (passTF s (ev i).s).out⟩, i + 1, 0) := by
  unfold oneT
  rw [if_neg (by simp [h1]), if_neg (fun q => by have := h2 q.1; omega), if_neg (by simp [h3])]
theorem passTF_stay (s : Ga) : passTF s s.now = s := by
  unfold passTF
  rw [Int.sub_self]
  rfl
theorem give_ok {b : Bo} {x : Ev} (hk : 3 ≤ x.k) (h : (b.deed x).2 = 0) : b.run = false ∧ b.deed x = b.give x.k x.t x.p := by
  have e : b.deed x = b.give x.k x.t x.p := by unfold Bo.deed; rw [if_neg (by omega), if_neg (by omega), if_neg (by omega)]
  rw [e] at h
  refine ⟨?_, e⟩
  cases hr : b.run
  · rfl
  · unfold Bo.give at h; rw [if_pos hr] at h; simp at h
theorem stA_two {ev : Nat → Ev} {j : Nat} {b : Bo} {s : Int} {out : List Pen} (he : erA ev j = 0) (hp : passTF (stA ev j) s = ⟨b, s, out⟩) (hr : b.run = false) (x1 : evOk (ev j) = true) (x2 : evOk (ev (j + 1)) = true) (k1 : 3 ≤ (ev j).k) (k2 : 3 ≤ (ev (j + 1)).k) (s1 : (ev j).s = s) (s2 : (ev (j + 1)).s = s) (ho : j ≠ 0 → (ev (j - 1)).s ≤ s) :
    playT ev 1048576 (j + 2) 0 G0 = (⟨((b.give (ev j).k (ev j).t (ev j).p).1.give (ev (j + 1)).k (ev (j + 1)).t (ev (j + 1)).p).1, s, out⟩, j + 2, 0) := by
  have g0 : ∀ (c : Bo) (x : Ev), 3 ≤ x.k → c.deed x = c.give x.k x.t x.p := fun c x hk => by unfold Bo.deed; rw [if_neg (by omega), if_neg (by omega), if_neg (by omega)]
  have g1 : ∀ (c : Bo) (k t p : Int), c.run = false → (c.give k t p).2 = 0 ∧ (c.give k t p).1.run = false := fun c k t p h => by
    unfold Bo.give; rw [if_neg (by simp [h])]; split <;> exact ⟨rfl, h⟩
  have e1 : playT ev 1048576 (j + 1) 0 G0 = (⟨(b.give (ev j).k (ev j).t (ev j).p).1, s, out⟩, j + 1, 0) := by
    rw [playT_snoc, if_pos (show (playT ev 1048576 j 0 G0).2.2 = 0 from he), Nat.zero_add]
    have : (playT ev 1048576 j 0 G0).1 = stA ev j := rfl
    rw [this, oneT_ok x1 (by rw [s1]; exact ho) (by rw [s1, hp, g0 _ _ k1]; exact (g1 _ _ _ _ hr).1), s1, hp, g0 _ _ k1]
  have h3 := g1 b (ev j).k (ev j).t (ev j).p hr
  rw [show j + 2 = (j + 1) + 1 from rfl, playT_snoc, e1, if_pos rfl, Nat.zero_add]
  have st := passTF_stay ⟨(b.give (ev j).k (ev j).t (ev j).p).1, s, out⟩
  simp only at st
  rw [oneT_ok x2 (by rw [s2, Nat.add_sub_cancel, s1]; exact fun _ => Int.le_refl _) (by rw [s2, st, g0 _ _ k2]; exact (g1 _ _ _ _ h3.2).1), s2, st, g0 _ _ k2]
/-- Two events change places. -/
def swF (l : Nat → Nat → Int) (j x c : Nat) : Int := if x = j then l (j + 1) c else if x = j + 1 then l j c else l x c
theorem swap_pl {l : Nat → Nat → Int} {n j : Nat} (hn : n ≤ 256) (hE : erA (evN l) n = 0) (hj : j + 1 < n) (k1 : 3 ≤ l j 0) (k2 : 3 ≤ l (j + 1) 0) (hs : l j 1 = l (j + 1) 1) (t1 : l j 2 = 0) (t2 : l (j + 1) 2 = 1) :
    plT n (swF l j) = plT n l ∧ erA (evN (swF l j)) n = 0 := by
  have q0 : evN (swF l j) j = evN l (j + 1) := by simp [evN, swF]
  have q1 : evN (swF l j) (j + 1) = evN l j := by simp [evN, swF]
  have qx : ∀ x, x ≠ j → x ≠ j + 1 → evN (swF l j) x = evN l x := fun x a b => by simp [evN, swF, a, b]
  have qs : ∀ x, (evN (swF l j) x).s = (evN l x).s := fun x => by
    by_cases a : x = j
    · subst a; rw [q0]; exact hs.symm
    · by_cases b : x = j + 1
      · subst b; rw [q1]; exact hs
      · rw [qx x a b]
  have hj0 := erA_le hE j (by omega)
  obtain ⟨a1, a2, a3, a4⟩ := stA_succ (erA_le hE (j + 1) (by omega))
  obtain ⟨b1, b2, b3, b4⟩ := stA_succ (erA_le hE (j + 2) (by omega))
  have c0 : playT (evN (swF l j)) 1048576 j 0 G0 = playT (evN l) 1048576 j 0 G0 := playT_congr _ _ _ (fun x hx => qx x (by omega) (by omega))
  have c1 : erA (evN (swF l j)) j = 0 := by unfold erA; rw [c0]; exact hj0
  have c2 : stA (evN (swF l j)) j = stA (evN l) j := by unfold stA; rw [c0]
  obtain ⟨b, out, hp⟩ : ∃ b out, passTF (stA (evN l) j) (evN l j).s = ⟨b, (evN l j).s, out⟩ := by
    have := passTF_now (stA (evN l) j) (evN l j).s
    generalize passTF (stA (evN l) j) (evN l j).s = P at this ⊢
    cases P with
    | mk b now out => simp only at this; exact ⟨b, out, by rw [this]⟩
  rw [hp] at a3
  obtain ⟨hr, _⟩ := give_ok (b := b) (x := evN l j) k1 a3
  have e1 := stA_two hj0 hp hr a1 b1 k1 k2 rfl hs.symm a2
  have e2 := stA_two (ev := evN (swF l j)) c1 (by rw [c2]; exact hp) hr (by rw [q0]; exact b1) (by rw [q1]; exact a1) (by rw [q0]; exact k2) (by rw [q1]; exact k1) (by rw [q0]; exact hs.symm) (by rw [q1]) (by rw [qs]; exact a2)
  have ec : playT (evN (swF l j)) 1048576 (j + 2) 0 G0 = playT (evN l) 1048576 (j + 2) 0 G0 := by
    rw [e1, e2, q0, q1]
    have u1 : (evN l j).t = 0 := t1
    have u2 : (evN l (j + 1)).t = 1 := t2
    rw [u1, u2]
    congr 2
    unfold Bo.give
    simp [hr]
  have key : ∀ m, playT (evN (swF l j)) 1048576 (j + 2 + m) 0 G0 = playT (evN l) 1048576 (j + 2 + m) 0 G0 := fun m => by
    induction m with
    | zero => exact ec
    | succ m ih =>
      rw [show j + 2 + (m + 1) = j + 2 + m + 1 by omega, playT_snoc, playT_snoc, ih]
      have : ∀ s, oneT (evN (swF l j)) (0 + (j + 2 + m)) s = oneT (evN l) (0 + (j + 2 + m)) s := fun s => by
        unfold oneT
        rw [qs (0 + (j + 2 + m) - 1), qx (0 + (j + 2 + m)) (by omega) (by omega)]
      rw [this]
  have kn := key (n - (j + 2))
  rw [show j + 2 + (n - (j + 2)) = n by omega] at kn
  have r1 : erA (evN (swF l j)) n = 0 := by unfold erA; rw [kn]; exact hE
  refine ⟨?_, r1⟩
  rw [plT_eq hn r1, plT_eq hn hE]
  unfold stA
  rw [kn]
theorem playT_brk {ev : Nat → Ev} {to : Int} (hto : to ≤ 1048576) : ∀ (m k i : Nat) (s : Ga), m < k → Right ev i k → to < (ev (i + m)).s → (∀ j, i ≤ j → j < i + m → (ev j).s ≤ to) → (playT ev 1048576 m i s).2.2 = 0 → (playT ev to k i s).1 = (playT ev 1048576 m i s).1
  | 0, 0, i, s, h, _, _, _, _ => by omega
  | 0, k + 1, i, s, _, hr, ht, _, _ => by
    obtain ⟨a, b⟩ := hr i (by omega) (by omega)
    unfold playT
    rw [if_neg (by simp [a]), if_neg b, if_pos (by simpa using ht)]
  | m + 1, 0, i, s, h, _, _, _, _ => by omega
  | m + 1, k + 1, i, s, h, hr, ht, hj, hz => by
    obtain ⟨a, b⟩ := hr i (by omega) (by omega)
    rw [playT_one] at hz ⊢
    by_cases q : (oneT ev i s).2.2 = 0
    · rw [if_pos q] at hz ⊢
      have c : ((passTF s (ev i).s).b.deed (ev i)).2 = 0 := by
        unfold oneT at q
        rw [if_neg (by simp [a]), if_neg b] at q
        split at q
        · exact q
        · rename_i c; simpa using c
      have e : oneT ev i s = (⟨((passTF s (ev i).s).b.deed (ev i)).1, (ev i).s, (passTF s (ev i).s).out⟩, i + 1, 0) := oneT_ok a (fun z => by omega) c
      rw [e] at hz ⊢
      conv => lhs; unfold playT
      rw [if_neg (by simp [a]), if_neg b, if_neg (by have := hj i (by omega) (by omega); omega), if_neg (by simp [c])]
      exact playT_brk hto m k (i + 1) _ (by omega) (fun x y z => hr x (by omega) (by omega)) (by rw [show i + 1 + m = i + (m + 1) by omega]; exact ht) (fun x y z => hj x (by omega) (by omega)) hz
    · rw [if_neg q] at hz; exact absurd hz q
theorem agT_pre {l : Nat → Nat → Int} {n m : Nat} {to : Int} (hn : n ≤ 256) (hE : erA (evN l) n = 0) (h0 : 0 ≤ to) (hto : to ≤ 1048576) (hm : m ≤ n) (hj : ∀ j, j < m → (evN l j).s ≤ to) (hb : m = n ∨ to < (evN l m).s) : agT m l to = agT n l to := by
  rcases Nat.eq_or_lt_of_le hm with rfl | hlt
  · rfl
  have hb : to < (evN l m).s := by rcases hb with h | h; omega; exact h
  rw [agT_sec (by omega) (erA_le hE m hm) h0 hto hj]
  unfold agT
  rw [if_neg (by rw [plT_er hn, hE]; simp), if_neg (by rw [in3_iff.2 ⟨h0, hto⟩]; simp), playT_brk hto m n 0 G0 hlt (playT_right n 0 G0 hE) (by simpa using hb) (fun j _ q => hj j (by omega)) (erA_le hE m hm)]
  rfl
end Go.Eng
end

/- clock: what a goal does (plain). -/
section
namespace Go.Eng
open Go Go.RowKit Go.Proofs
set_option maxRecDepth 100000
set_option maxHeartbeats 4000000
attribute [local irreducible] OwnT DefS
def endF (O : List Pen) : Nat → Int
  | 0 => -1
  | k + 1 => if endF O k < 0 ∧ pf O (wS O k).toNat 1 = 3 then wS O k else endF O k
def wantF (O : List Pen) (e : Int) : Nat → List Pen
  | 0 => []
  | k + 1 => if (k : Int) = e then wantF O e k else wantF O e k ++ [pn (pf O) k]
theorem wantF_len (O : List Pen) (e : Int) : ∀ k, (wantF O e k).length ≤ k
  | 0 => by simp [wantF]
  | k + 1 => by
    have := wantF_len O e k
    unfold wantF
    split
    · omega
    · simp; omega
theorem wantF_none {O : List Pen} {e : Int} : ∀ m, (∀ k : Nat, k < m → (k : Int) ≠ e) → wantF O e m = Eng.pl m (pf O)
  | 0, _ => rfl
  | m + 1, h => by
    unfold wantF
    rw [if_neg (h m (by omega)), wantF_none m (fun k hk => h k (by omega)), pl_succ]
theorem want_all (O : List Pen) : wantF O (-1) O.length = O := by rw [wantF_none _ (fun k hk => by omega), pl_pf]
theorem wantF_at {O : List Pen} {j : Nat} : ∀ m, wantF O j (j + 1 + m) = (Eng.pl (j + 1 + m) (pf O)).eraseIdx j
  | 0 => by
    rw [Nat.add_zero, wantF, if_pos rfl, wantF_none _ (fun k hk => by omega), pl_succ, List.eraseIdx_append_of_length_le (by rw [pl_len]; omega), pl_len]
    simp
  | m + 1 => by
    rw [show j + 1 + (m + 1) = j + 1 + m + 1 by omega, wantF, if_neg (by omega), wantF_at m, pl_succ (j + 1 + m), List.eraseIdx_append_of_lt_length (by rw [pl_len]; omega)]
theorem want_erase {O : List Pen} {j : Nat} (hj : j < O.length) : wantF O j O.length = O.eraseIdx j := by
  have := wantF_at (O := O) (j := j) (O.length - (j + 1))
  rw [show j + 1 + (O.length - (j + 1)) = O.length by omega, pl_pf] at this
  exact this
theorem end_goal (O : List Pen) : wantF O (endF O (nS O)) O.length = goalL O := by
  have hsec := fun h => secL_spec (l := O) h
  unfold goalL
  rcases Nat.eq_zero_or_pos O.length with h0 | h0
  · have e : nS O = 0 := by unfold nS; rw [if_pos h0]
    rw [e, if_neg (by omega), if_neg (by omega)]
    exact want_all O
  · obtain ⟨s1, s2, _, _⟩ := hsec h0
    have e1 : endF O 1 = if pf O 0 1 = 3 then 0 else -1 := by simp [endF, wS]
    have w0 : wantF O 0 O.length = O.eraseIdx 0 := want_erase (j := 0) h0
    by_cases hl : secL O < O.length
    · have e : nS O = 2 := by unfold nS; rw [if_neg (by omega), if_pos hl]
      have e2 : endF O 2 = if pf O 0 1 = 3 then 0 else if pf O (secL O) 1 = 3 then (secL O : Int) else -1 := by
        rw [endF, e1]
        by_cases q : pf O 0 1 = 3
        · simp [q]
        · simp [q, wS]
      rw [e, e2]
      by_cases q : pf O 0 1 = 3
      · rw [if_pos q, if_pos ⟨by omega, q⟩]; exact w0
      · rw [if_neg q, if_neg (show ¬ ((0 : Nat) < 2 ∧ pf O 0 1 = 3) from fun r => q r.2)]
        by_cases q2 : pf O (secL O) 1 = 3
        · rw [if_pos q2, if_pos ⟨rfl, q2⟩]; exact want_erase hl
        · rw [if_neg q2, if_neg (fun r => q2 r.2)]; exact want_all O
    · have e : nS O = 1 := by unfold nS; rw [if_neg (by omega), if_neg hl]
      rw [e, e1, if_neg (show ¬ ((1 : Nat) = 2 ∧ _) from fun r => by omega)]
      by_cases q : pf O 0 1 = 3
      · rw [if_pos q, if_pos ⟨by omega, q⟩]; exact w0
      · rw [if_neg q, if_neg (fun r => q r.2)]; exact want_all O
theorem playT_same {ev ev' : Nat → Ev} (h : ∀ j, evOk (ev j) = evOk (ev' j) ∧ (ev j).s = (ev' j).s ∧ ∀ b : Bo, b.deed (ev j) = b.deed (ev' j)) : ∀ (k i : Nat) (s : Ga), playT ev 1048576 k i s = playT ev' 1048576 k i s
  | 0, i, s => rfl
  | k + 1, i, s => by
    obtain ⟨h1, h2, h3⟩ := h i
    have h4 := (h (i - 1)).2.1
    unfold playT
    rw [h1, h2, h3, h4, playT_same h k (i + 1)]
/-- A whistle in the place of an event. -/
def whF (l : Nat → Nat → Int) (i x c : Nat) : Int := if x = i then (if c = 0 then 1 else if c = 1 then l i 1 else 0) else l x c
theorem stop_pl {n i : Nat} {l : Nat → Nat → Int} (hn : n ≤ 256) (hE : erA (evN l) n = 0) (hi : i < n) (hk : l i 0 = 2) : (plT n (setK l i)).2.2 = 0 ∧ plT n (whF l i) = plT n (setK l i) := by
  constructor
  · have := tm_play (ev := evN l) (ev' := evN (setK l i)) (fun j => ⟨by simp [evN, setK], by
      by_cases e : j = i
      · right; subst e; simp [evN, setK, hk]
      · left; simp [evN, setK, e]⟩) n 0 G0 G0 ⟨rfl, rfl, rfl, rfl⟩ hE
    rw [plT_er hn]
    exact this
  · have : ∀ k x s, playT (evN (whF l i)) 1048576 k x s = playT (evN (setK l i)) 1048576 k x s := playT_same (fun j => by
      by_cases e : j = i
      · subst e
        refine ⟨?_, by simp [evN, setK, whF], fun b => ?_⟩
        · simp [evN, setK, whF, evOk, in3]
        · simp [evN, setK, whF, Bo.deed]
      · have : evN (whF l i) j = evN (setK l i) j := by simp [evN, setK, whF, e]
        rw [this]
        exact ⟨rfl, rfl, fun _ => rfl⟩)
    unfold plT
    rw [this]
theorem goal_facts {n i : Nat} {l : Nat → Nat → Int} (hn : n ≤ 60) (hE : erA (evN l) n = 0) (hi : i < n) (hk : l i 0 = 2) : ∃ P : Ga, agT i l (l i 1) = (P, 0) ∧ P.b.Ok ∧ P.b.Sm ∧ P.b.run = true ∧ (l i 2 = 0 ∨ l i 2 = 1) ∧ plT (i + 1) l = ((P.b.goal (l i 2)).1, ((i + 1 : Nat) : Int), 0) := by
  have h1 := erA_le hE (i + 1) (by omega)
  obtain ⟨a1, a2, a3, a4⟩ := stA_succ h1
  have he := evOk_iff.1 a1
  have hs : 0 ≤ l i 1 ∧ l i 1 ≤ 1048576 := he.2.1
  have ht : l i 0 < 2 ∨ (0 ≤ l i 2 ∧ l i 2 ≤ 1) := he.2.2.1
  have ha := agT_sec (l := l) (to := l i 1) (by omega) (erA_le hE i (by omega)) hs.1 hs.2 (fun j hj => ev_mono hE i hi j (by omega))
  have hsm := agT_sm i l (l i 1)
  rw [ha] at hsm
  have hd : ∀ b : Bo, b.deed (evN l i) = b.goal (l i 2) := fun b => by
    unfold Bo.deed
    rw [if_neg (show ¬ (evN l i).k = 0 by show ¬ l i 0 = 0; omega), if_neg (show ¬ (evN l i).k = 1 by show ¬ l i 0 = 1; omega), if_pos (show (evN l i).k = 2 from hk)]
    rfl
  refine ⟨_, ha, (passTF_ok hs (stA_ok (ev := evN l) (k := i) (by omega))).b, hsm, ?_, by omega, ?_⟩
  · rw [hd] at a3
    have e : (evN l i).s = l i 1 := rfl
    rw [e] at a3
    generalize (passTF (stA (evN l) i) (l i 1)).b = A at a3 ⊢
    cases hr : A.run
    · unfold Bo.goal at a3; rw [if_neg (by simp [hr])] at a3; simp at a3
    · rfl
  · rw [plT_eq (by omega) h1, a4, hd]
    rfl
end Go.Eng
end

/- clock: sums of penalties as seconds pass and events come (plain). -/
section
namespace Go.Eng
open Go Go.RowKit Go.Proofs
set_option maxRecDepth 100000
set_option maxHeartbeats 4000000
attribute [local irreducible] OwnT DefS
def sumM : List Pen → Int
  | [] => 0
  | p :: l => (if p.k = 3 then 0 else p.l) + sumM l
theorem sumM_app : ∀ (l k : List Pen), sumM (l ++ k) = sumM l + sumM k
  | [], k => by simp [sumM]
  | p :: l, k => by simp only [List.cons_append, sumM, sumM_app l k]; omega
theorem sumI_pos : ∀ {l : List Pen}, (∀ p ∈ l, 1 ≤ p.l) → 0 ≤ sumI l ∧ (sumI l = 0 → l = []) := fun {l} h => by
  have := sum_pos h
  exact ⟨by omega, fun q => List.length_eq_zero_iff.1 (by omega)⟩
/-- How far time went. -/
structure Went (b c : Bo) : Prop where
  per : c.per = b.per
  pl : b.pl ≤ c.pl
  run : b.pl < c.pl → b.run = true
  g0 : c.g0 = b.g0
  g1 : c.g1 = b.g1
  s0 : sumI c.p0 ≤ sumI b.p0 ∧ sumI b.p0 - sumI c.p0 ≤ 2 * (c.pl - b.pl) ∧ (0 < sumI c.p0 → c.pl - b.pl ≤ sumI b.p0 - sumI c.p0)
  s1 : sumI c.p1 ≤ sumI b.p1 ∧ sumI b.p1 - sumI c.p1 ≤ 2 * (c.pl - b.pl) ∧ (0 < sumI c.p1 → c.pl - b.pl ≤ sumI b.p1 - sumI c.p1)
theorem nS_2 (l : List Pen) : nS l ≤ 2 := by unfold nS; split; omega; split <;> omega
theorem goneS_one {l : List Pen} (h : ∀ p ∈ l, 1 ≤ p.l) : 0 ≤ sumI (goneS 1 l) ∧ sumI (goneS 1 l) ≤ sumI l ∧ sumI l - sumI (goneS 1 l) ≤ 2 ∧ (0 < sumI (goneS 1 l) → 1 ≤ sumI l - sumI (goneS 1 l)) := by
  have e := sum_goneS 1 l
  have h2 := nS_2 l
  have hp := sum_pos h
  refine ⟨?_, by omega, by omega, fun q => ?_⟩
  · have : (nS l : Int) ≤ l.length := by
      unfold nS
      split
      · omega
      · have := (secL_spec (l := l) (by omega)).1
        split <;> omega
    omega
  · have : l ≠ [] := fun r => by rw [r] at q; exact absurd q (by decide)
    have := nS_pos this
    omega
theorem passT_went {to : Int} (hto : to ≤ 1048576) : ∀ (k : Nat) (s : Ga), s.Ok → Went s.b (passT k s to).b
  | 0, s, h => ⟨rfl, Int.le_refl _, fun q => absurd q (Int.lt_irrefl _), rfl, rfl, ⟨Int.le_refl _, by simp only [passT]; omega, fun _ => by simp only [passT]; omega⟩, ⟨Int.le_refl _, by simp only [passT]; omega, fun _ => by simp only [passT]; omega⟩⟩
  | k + 1, s, h => by
    simp only [passT]
    split
    · rename_i h1
      obtain ⟨r1, r2, r3, r4, r5, r6, r7⟩ := passT_went hto k _ (tick_ok h h1.1 hto h1.2)
      obtain ⟨a0, a1, a2, a3⟩ := goneS_one (l := s.b.p0) (fun p hp => (h.b.p0.2 p hp).1)
      obtain ⟨b0, b1, b2, b3⟩ := goneS_one (l := s.b.p1) (fun p hp => (h.b.p1.2 p hp).1)
      generalize (passT k s.tick to).b = c at *
      simp only [Ga.tick, Bo.pass] at r1 r2 r3 r4 r5 r6 r7
      refine ⟨r1, by omega, fun _ => h1.1, r4, r5, ⟨by omega, by omega, fun q => ?_⟩, ⟨by omega, by omega, fun q => ?_⟩⟩
      · have := r6.2.2 q; have := a3 (by omega); omega
      · have := r7.2.2 q; have := b3 (by omega); omega
    · exact ⟨rfl, Int.le_refl _, fun q => absurd q (Int.lt_irrefl _), rfl, rfl, ⟨Int.le_refl _, by simp only []; omega, fun _ => by simp only []; omega⟩, ⟨Int.le_refl _, by simp only []; omega, fun _ => by simp only []; omega⟩⟩
theorem sum_erase : ∀ (l : List Pen) (j : Nat), j < l.length → sumI (l.eraseIdx j) = sumI l - pf l j 2 ∧ (pf l j 1 = 3 → sumM (l.eraseIdx j) = sumM l)
  | [], j, h => by simp at h
  | p :: l, 0, _ => by
    simp only [List.eraseIdx_cons_zero, sumI, sumM]
    refine ⟨by simp [pf, pe]; omega, fun q => ?_⟩
    have q : p.k = 3 := by simpa [pf, pe] using q
    rw [if_pos q]; omega
  | p :: l, j + 1, h => by
    obtain ⟨a, b⟩ := sum_erase l j (by simpa using h)
    have e : ∀ c, pf (p :: l) (j + 1) c = pf l j c := fun c => by simp [pf]
    simp only [List.eraseIdx_cons_succ, sumI, sumM, e]
    exact ⟨by omega, fun q => by rw [b q]⟩
/-- Minor penalties last no longer than that. -/
def minL (l : List Pen) : Prop := ∀ p ∈ l, p.k = 3 → p.l ≤ 120
theorem goal_sum {l : List Pen} (h : lOk l) (h2 : minL l) : sumI (goalL l) ≤ sumI l ∧ sumI l - sumI (goalL l) ≤ 120 ∧ sumM (goalL l) = sumM l := by
  have key : ∀ j, j < l.length → pf l j 1 = 3 → sumI (l.eraseIdx j) ≤ sumI l ∧ sumI l - sumI (l.eraseIdx j) ≤ 120 ∧ sumM (l.eraseIdx j) = sumM l := fun j hj hk => by
    obtain ⟨a, b⟩ := sum_erase l j hj
    have h3 := lOk_pf h hj
    have h4 := h2 _ (pf_mem hj) hk
    simp only at h4
    exact ⟨by omega, by omega, b hk⟩
  unfold goalL
  split
  · rename_i q
    refine key 0 ?_ q.2
    have := q.1
    unfold nS at this
    split at this
    · omega
    · omega
  · split
    · rename_i q
      refine key _ ?_ q.2
      have := q.1
      unfold nS at this
      repeat' split at this
      all_goals omega
    · exact ⟨Int.le_refl _, by omega, rfl⟩
theorem goneS_min {n : Int} {l : List Pen} (hn : 0 ≤ n) (h : minL l) : minL (goneS n l) := fun p hp hk => by
  obtain ⟨q, hq, h1, h2, h3⟩ := goneW_mem hn hp
  have := h q hq (by omega)
  omega
theorem passT_min {to : Int} : ∀ (k : Nat) (s : Ga), minL s.b.p0 ∧ minL s.b.p1 → minL (passT k s to).b.p0 ∧ minL (passT k s to).b.p1
  | 0, s, h => h
  | k + 1, s, h => by
    simp only [passT]
    split
    · exact passT_min k _ ⟨goneS_min (by omega) h.1, goneS_min (by omega) h.2⟩
    · exact h
theorem gives_min (k p : Int) : minL (gives k p) := by
  unfold gives minL
  repeat' split
  all_goals simp
theorem app_min {l k : List Pen} (h : minL l) (h2 : minL k) : minL (l ++ k) := fun p hp => by
  rcases List.mem_append.1 hp with q | q
  · exact h p q
  · exact h2 p q
theorem deed_min {b : Bo} (h : minL b.p0 ∧ minL b.p1) (x : Ev) : minL (b.deed x).1.p0 ∧ minL (b.deed x).1.p1 := by
  obtain ⟨h1, h2⟩ := h
  have g1 : minL (goalL b.p0) := fun p hp => h1 p ((goalL_sub b.p0).2 p hp)
  have g2 : minL (goalL b.p1) := fun p hp => h2 p ((goalL_sub b.p1).2 p hp)
  have a1 := app_min h1 (gives_min x.k x.p)
  have a2 := app_min h2 (gives_min x.k x.p)
  unfold Bo.deed Bo.start Bo.stop Bo.goal Bo.give
  repeat' split
  all_goals constructor
  all_goals dsimp only
  all_goals first | exact h1 | exact h2 | exact g1 | exact g2 | exact a1 | exact a2 | (split <;> first | exact h1 | exact h2 | exact g1 | exact g2)
theorem stA_min {ev : Nat → Ev} : ∀ {k : Nat}, erA ev k = 0 → minL (stA ev k).b.p0 ∧ minL (stA ev k).b.p1
  | 0, _ => ⟨fun p hp => by simp [stA, playT, G0, Bo.z] at hp, fun p hp => by simp [stA, playT, G0, Bo.z] at hp⟩
  | k + 1, h => by
    obtain ⟨h1, _, _, h2⟩ := stA_succ h
    rw [h2]
    exact deed_min (passT_min _ _ (stA_min (erA_le h k (by omega)))) _
theorem gives_sum (k p : Int) : sumI (gives k p) = if k = 3 then 120 else if k = 4 then 240 else if k = 5 then 300 else 0 := by
  unfold gives
  repeat' split
  all_goals simp [sumI]
/-- What an event does to the sums: of the team t. -/
theorem deed_sum {b : Bo} (hb : b.Ok) (hm : minL b.p0 ∧ minL b.p1) {x : Ev} (hd : (b.deed x).2 = 0) (hk : 0 ≤ x.k) (ht : x.k < 2 ∨ (0 ≤ x.t ∧ x.t ≤ 1)) {t : Int} (h01 : t = 0 ∨ t = 1) :
    (x.k = 2 ∧ x.t ≠ t → sumI ((b.deed x).1.pt t) ≤ sumI (b.pt t) ∧ sumI (b.pt t) - sumI ((b.deed x).1.pt t) ≤ 120 ∧ sumM ((b.deed x).1.pt t) = sumM (b.pt t)) ∧
    (¬ (x.k = 2 ∧ x.t ≠ t) → sumI ((b.deed x).1.pt t) = sumI (b.pt t) + (if x.k = 3 ∧ x.t = t then 120 else if x.k = 4 ∧ x.t = t then 240 else if x.k = 5 ∧ x.t = t then 300 else 0)) := by
  have s0 := goal_sum hb.p0 hm.1
  have s1 := goal_sum hb.p1 hm.2
  have gs := gives_sum x.k x.p
  obtain ⟨k, s, xt, p⟩ := x
  simp only at hk ht gs ⊢
  have hd' := hd
  unfold Bo.deed at hd ⊢
  by_cases k0 : k = 0
  · subst k0
    refine ⟨fun q => by omega, fun _ => ?_⟩
    rw [if_neg (show ¬ ((0 : Int) = 3 ∧ xt = t) from fun q => by omega), if_neg (show ¬ ((0 : Int) = 4 ∧ xt = t) from fun q => by omega), if_neg (show ¬ ((0 : Int) = 5 ∧ xt = t) from fun q => by omega), Int.add_zero]
    rw [if_pos rfl]
    unfold Bo.start
    repeat' split
    all_goals rfl
  by_cases k1 : k = 1
  · subst k1
    refine ⟨fun q => by omega, fun _ => ?_⟩
    rw [if_neg (show ¬ ((1 : Int) = 3 ∧ xt = t) from fun q => by omega), if_neg (show ¬ ((1 : Int) = 4 ∧ xt = t) from fun q => by omega), if_neg (show ¬ ((1 : Int) = 5 ∧ xt = t) from fun q => by omega), Int.add_zero]
    rw [if_neg (by omega), if_pos rfl]
    unfold Bo.stop
    repeat' split
    all_goals rfl
  by_cases k2 : k = 2
  · subst k2
    simp only [Bo.goal, Bo.pt] at hd ⊢
    rcases h01 with rfl | rfl <;> (obtain rfl | rfl : xt = 0 ∨ xt = 1 := by omega) <;> cases hr : b.run <;> simp_all
    all_goals (split <;> simp_all)
  · simp only [if_neg k0, if_neg k1, if_neg k2, Bo.give, Bo.pt] at hd ⊢
    cases hr : b.run
    · refine ⟨fun q => absurd q.1 k2, fun _ => ?_⟩
      rcases h01 with rfl | rfl <;> (obtain rfl | rfl : xt = 0 ∨ xt = 1 := by omega) <;> simp [sumI_app, gs]
    · rw [if_pos hr] at hd; simp at hd
end Go.Eng
end

/- clock: sum, and strengths (plain). -/
section
namespace Go.Eng
open Go Go.RowKit Go.Proofs
set_option maxRecDepth 100000
set_option maxHeartbeats 4000000
attribute [local irreducible] OwnT DefS
theorem sum_bd {n : Nat} {f : Nat → Nat → Int} (h : ∀ i, i < n → 0 ≤ f i 2 ∧ f i 2 ≤ 1000) : ∀ i, i ≤ n → (0 ≤ sumI (Eng.pl i f) ∧ sumI (Eng.pl i f) ≤ 1000 * i) ∧ (0 ≤ sumM (Eng.pl i f) ∧ sumM (Eng.pl i f) ≤ 1000 * i)
  | 0, _ => by simp [Eng.pl, sumI, sumM]
  | i + 1, hi => by
    have ih := sum_bd h i (by omega)
    have hf := h i (by omega)
    rw [pl_succ, sumI_app, sumM_app]
    by_cases q : f i 1 = 3 <;> simp [sumI, sumM, pn, q] <;> omega
theorem sumI_pl1 (n : Nat) (f : Nat → Nat → Int) : sumI (Eng.pl (n + 1) f) = sumI (Eng.pl n f) + f n 2 := by rw [pl_succ, sumI_app]; simp [sumI, pn]
theorem sumM_pl1 (n : Nat) (f : Nat → Nat → Int) : sumM (Eng.pl (n + 1) f) = sumM (Eng.pl n f) + (if f n 1 = 3 then 0 else f n 2) := by rw [pl_succ, sumM_app]; by_cases q : f n 1 = 3 <;> simp [sumM, pn, q]
def sumPBase : BaseF := fun args => match args with
  | [.row n sz_f f_f] => some ((sz_f = 3 ∧ IntR n 3 f_f) ∧ (n ≤ 1000000 ∧ ∀ i, i < n → 0 ≤ (ivf f_f) i 2 ∧ (ivf f_f) i 2 ≤ 1000), .tup [.int .i64 (sumI (Eng.pl n (ivf f_f))), .int .i64 (sumM (Eng.pl n (ivf f_f)))])
  | _ => none
theorem sumP_eq (n : Nat) (sz_f : Nat) (f_f : Nat → Nat → SV) : sumPBase [.row n sz_f f_f] = some ((sz_f = 3 ∧ IntR n 3 f_f) ∧ (n ≤ 1000000 ∧ ∀ i, i < n → 0 ≤ (ivf f_f) i 2 ∧ (ivf f_f) i 2 ≤ 1000), .tup [.int .i64 (sumI (Eng.pl n (ivf f_f))), .int .i64 (sumM (Eng.pl n (ivf f_f)))]) := rfl
theorem sumP_base : Base Try.prog 21 sumPBase := by
  intro args p v hq hp
  unfold sumPBase at hq
  split at hq
  rotate_left
  · cases hq
  rename_i n sz_f f_f
  cases hq
  obtain ⟨⟨rfl, i_f⟩, pre⟩ := hp
  refine base_of (C := cx [] [] [] [] none) (cx_ok trivial trivial) rfl (g := 21) (fn := Try.f21)
    (args' := [.row n 3 (rowF .i64 (ivf f_f))]) (fn_21) rfl 1000 (by
    simp only [BdL, Bd, and_self, and_true, true_and]
    exact (fun i j hi hj => by rw [i_f i j hi hj]; trivial)) ⟨SameD.int i_f, trivial⟩ ?_
  generalize ivf f_f = f at *
  simp only [rowF_eq]
  simp only [Try.f21, go_sem, ↓reduceIte, Nat.reduceAdd, Nat.reduceSub, Nat.reduceMul, Nat.reduceEqDiff, Nat.reduceLT, Nat.reduceLeDiff, Int.reduceToNat, Int.reduceLE, Int.reduceLT, Int.reduceEq, Int.reduceNeg, reduceCtorEq]
  obtain ⟨hn, hf⟩ := pre
  refine loop_of { i : Nat // i ≤ n } (fun i => [(10, .int .i64 (i.1 : Int)), (9, .int .i64 (n : Int)), (8, .row n 3 fun i j => .int .i64 (f i j)), (5, .int .i64 (sumM (Eng.pl i.1 f))), (4, .int .i64 (sumI (Eng.pl i.1 f)))]) (fun _ => ⟨[], []⟩) (fun i => n - i.1) (fun _ => ⟨rfl, rfl⟩) ⟨0, by omega⟩ (by simp only [show Eng.pl 0 f = [] from rfl, sumI, sumM]; (apply sub_of <;> simp only [go_sem, ↓reduceIte, Nat.reduceAdd, Nat.reduceSub, Nat.reduceMul, Nat.reduceEqDiff, Nat.reduceLT, Nat.reduceLeDiff, Int.reduceToNat, Int.reduceLE, Int.reduceLT, Int.reduceEq, Int.reduceNeg, reduceCtorEq] <;> (try simp [catF]) <;> (try exact fun j _ => Bd_nth (by simp [BdL, Bd]) j) <;> (try exact bd_setL (by simp [bdAs, BdL, Bd])) <;> (try exact nestF_bd _ _ _ _ _ _ _ _ _))) ?_
  rintro ⟨i, hi⟩
  simp only [Try.f21, go_sem, ↓reduceIte, Nat.reduceAdd, Nat.reduceSub, Nat.reduceMul, Nat.reduceEqDiff, Nat.reduceLT, Nat.reduceLeDiff, Int.reduceToNat, Int.reduceLE, Int.reduceLT, Int.reduceEq, Int.reduceNeg, reduceCtorEq]
  have hb := sum_bd hf i hi
  have wi : IntKind.i64.wrap ((i : Int) + 1) = ((i + 1 : Nat) : Int) := by rw [wrap_id (by omega) (by omega)]; omega
  refine ⟨fun e1 => ⟨by simp only [decide_eq_true_eq] at e1; omega, fun e2 => ?_, fun e2 => ?_⟩, fun e1 => ?_⟩
  all_goals simp only [decide_eq_true_eq, decide_eq_false_iff_not] at e1
  · have hfi := hf i (by omega)
    have q : ¬ f i 1 = 3 := by simpa using e2
    have w1 : IntKind.i64.wrap (sumI (Eng.pl i f) + f i 2) = sumI (Eng.pl (i + 1) f) := by rw [wrap_id (by omega) (by omega), sumI_pl1]
    have w2 : IntKind.i64.wrap (sumM (Eng.pl i f) + f i 2) = sumM (Eng.pl (i + 1) f) := by rw [wrap_id (by omega) (by omega), sumM_pl1, if_neg q]
    refine ⟨⟨i + 1, by omega⟩, by simp only []; omega, ?_⟩
    apply sub_of <;> simp only [wi, w1, w2, go_sem, ↓reduceIte, Nat.reduceAdd, Nat.reduceSub, Nat.reduceMul, Nat.reduceEqDiff, Nat.reduceLT, Nat.reduceLeDiff, Int.reduceToNat, Int.reduceLE, Int.reduceLT, Int.reduceEq, Int.reduceNeg, reduceCtorEq] <;> (try simp) <;> (try exact fun j _ => Bd_nth (by simp [BdL, Bd]) j) <;> (try exact bd_setL (by simp [bdAs, BdL, Bd])) <;> (try exact nestF_bd _ _ _ _ _ _ _ _ _)
  · have hfi := hf i (by omega)
    have q : f i 1 = 3 := by simpa using e2
    have w1 : IntKind.i64.wrap (sumI (Eng.pl i f) + f i 2) = sumI (Eng.pl (i + 1) f) := by rw [wrap_id (by omega) (by omega), sumI_pl1]
    have w2 : sumM (Eng.pl (i + 1) f) = sumM (Eng.pl i f) := by rw [sumM_pl1, if_pos q, Int.add_zero]
    refine ⟨⟨i + 1, by omega⟩, by simp only []; omega, ?_⟩
    apply sub_of <;> simp only [wi, w1, w2, go_sem, ↓reduceIte, Nat.reduceAdd, Nat.reduceSub, Nat.reduceMul, Nat.reduceEqDiff, Nat.reduceLT, Nat.reduceLeDiff, Int.reduceToNat, Int.reduceLE, Int.reduceLT, Int.reduceEq, Int.reduceNeg, reduceCtorEq] <;> (try simp) <;> (try exact fun j _ => Bd_nth (by simp [BdL, Bd]) j) <;> (try exact bd_setL (by simp [bdAs, BdL, Bd])) <;> (try exact nestF_bd _ _ _ _ _ _ _ _ _)
  · obtain rfl : i = n := by omega
    first | rfl | exact ⟨rfl, rfl⟩
/-- Strengths that can be. -/
def strO (o : List Pen) : Prop := ∀ p ∈ o, (3 ≤ p.a ∧ p.a ≤ 5) ∧ (3 ≤ p.k ∧ p.k ≤ 5)
theorem stren_bd (l : List Pen) : 3 ≤ stren l ∧ stren l ≤ 5 := by
  have := nS_2 l
  unfold stren
  omega
theorem passT_strO {to : Int} : ∀ (k : Nat) (s : Ga), strO s.out → strO (passT k s to).out
  | 0, s, h => h
  | k + 1, s, h => by
    simp only [passT]
    split
    · refine passT_strO k _ ?_
      intro p hp
      rcases List.mem_append.1 hp with q | q
      · exact h p q
      · obtain rfl : p = ⟨stren s.b.p0, stren s.b.p1, 0⟩ := by simpa using q
        exact ⟨stren_bd _, stren_bd _⟩
    · exact h
theorem playT_strO {ev : Nat → Ev} {to : Int} : ∀ (k i : Nat) (s : Ga), strO s.out → strO (playT ev to k i s).1.out
  | 0, i, s, h => h
  | k + 1, i, s, h => by
    unfold playT
    repeat' split
    all_goals first | exact h | exact playT_strO k (i + 1) _ (passT_strO _ _ h)
/-- What strengths are like. -/
structure StrC (c : List Pen) (i : Nat) : Prop where
  rng : ∀ j, j < c.length → (3 ≤ pf c j 1 ∧ pf c j 1 ≤ 5) ∧ (3 ≤ pf c j 2 ∧ pf c j 2 ≤ 5) ∧ 0 ≤ pf c j 0 ∧ pf c j 0 < i
  fst : 0 < c.length → pf c 0 0 = 0
  nxt : ∀ j, j + 1 < c.length → ¬ (pf c (j + 1) 1 = pf c j 1 ∧ pf c (j + 1) 2 = pf c j 2) ∧ pf c j 0 < pf c (j + 1) 0
  some : 0 < c.length ↔ 0 < i
theorem cmp_str {o : List Pen} (h : strO o) : ∀ i, i ≤ o.length → StrC (cmpT o i) i
  | 0, _ => ⟨fun j hj => by simp [cmpT] at hj, fun h => by simp [cmpT] at h, fun j hj => by simp [cmpT] at hj, by simp [cmpT]⟩
  | i + 1, hi => by
    obtain ⟨r1, r2, r3, r4⟩ := cmp_str h i (by omega)
    have ho := h _ (pf_mem (l := o) (i := i) (by omega))
    simp only at ho
    unfold cmpT
    split
    · rename_i hc
      have lo : ∀ j c, j < (cmpT o i).length → pf (cmpT o i ++ [⟨i, pf o i 0, pf o i 1⟩]) j c = pf (cmpT o i) j c := fun j c hj => by rw [pf_app, if_pos hj]
      have hi0 : pf (cmpT o i ++ [⟨i, pf o i 0, pf o i 1⟩]) (cmpT o i).length 0 = i := by rw [pf_app, if_neg (by omega), Nat.sub_self]; rfl
      have hi1 : pf (cmpT o i ++ [⟨i, pf o i 0, pf o i 1⟩]) (cmpT o i).length 1 = pf o i 0 := by rw [pf_app, if_neg (by omega), Nat.sub_self]; rfl
      have hi2 : pf (cmpT o i ++ [⟨i, pf o i 0, pf o i 1⟩]) (cmpT o i).length 2 = pf o i 1 := by rw [pf_app, if_neg (by omega), Nat.sub_self]; rfl
      refine ⟨fun j hj => ?_, fun _ => ?_, fun j hj => ?_, ?_⟩
      · simp only [List.length_append, List.length_singleton] at hj
        rcases Nat.lt_or_ge j (cmpT o i).length with q | q
        · rw [lo _ _ q, lo _ _ q, lo _ _ q]
          have := r1 j q
          omega
        · obtain rfl : j = (cmpT o i).length := by omega
          rw [hi0, hi1, hi2]
          omega
      · rcases Nat.eq_zero_or_pos (cmpT o i).length with q | q
        · have : i = 0 := by omega
          rw [q] at hi0
          rw [hi0]; omega
        · rw [lo _ _ q]; exact r2 q
      · simp only [List.length_append, List.length_singleton] at hj
        rcases Nat.lt_or_ge (j + 1) (cmpT o i).length with q | q
        · rw [lo _ _ q, lo _ _ q, lo _ _ q, lo _ _ (by omega), lo _ _ (by omega), lo _ _ (by omega)]
          exact r3 j q
        · have e : j + 1 = (cmpT o i).length := by omega
          have := r1 j (by omega)
          obtain ⟨m, hm⟩ : ∃ m, i = m + 1 := ⟨i - 1, by omega⟩
          rw [e, hi0, hi1, hi2, lo _ _ (by omega), lo _ _ (by omega), lo _ _ (by omega)]
          refine ⟨fun r => ?_, by omega⟩
          subst hm
          obtain ⟨_, l1, l2⟩ := cmp_last o m
          rw [show (cmpT o (m + 1)).length - 1 = j by omega] at l1 l2
          have l1 : pf (cmpT o (m + 1)) j 1 = pf o m 0 := l1
          have l2 : pf (cmpT o (m + 1)) j 2 = pf o m 1 := l2
          rcases hc with hc | hc
          · omega
          · rw [Nat.add_sub_cancel] at hc
            exact hc ⟨by omega, by omega⟩
      · simp
    · rename_i hc
      have h0 : i ≠ 0 := fun q => hc (.inl q)
      refine ⟨fun j hj => ?_, r2, r3, by omega⟩
      have := r1 j hj
      omega
theorem stT_str {n : Nat} {l : Nat → Nat → Int} {to : Int} (h : (agT n l to).2 = 0) : (stT n l to).2 = 0 ∧ ∃ k : Nat, (k : Int) = (agT n l to).1.b.per * 1200 + (agT n l to).1.b.pl ∧ StrC (stT n l to).1 k := by
  have e : stT n l to = (cmpT (agT n l to).1.out (agT n l to).1.out.length, 0) := by unfold stT; rw [if_neg (by simp [h])]
  rw [e]
  refine ⟨rfl, (agT n l to).1.out.length, ?_, ?_⟩
  all_goals
    unfold agT at h ⊢
    split at h
    · rename_i q; exact absurd h q
    rename_i q
    split at h
    · cases h
    rename_i q2
    rw [if_neg q, if_neg q2]
    have hto := in3_iff.1 (show in3 to 0 1048576 = true by simpa using q2)
  · have r := rel_at (n := n) (l := l) (to := to) (by simpa using q) hto.2 hto.1
    rw [r.len, r.b]
  · exact cmp_str (passT_strO _ _ (playT_strO n 0 G0 (fun p hp => by simp [G0] at hp))) _ (Nat.le_refl _)
end Go.Eng
end

/- clock: ClockSeconds. -/
section
namespace Go.Eng
open Go Go.RowKit Go.Proofs
set_option maxRecDepth 100000
set_option maxHeartbeats 4000000
attribute [local irreducible] OwnT DefS
set_option maxHeartbeats 20000000
def dgF (k xt t : Int) : Int := if k = 3 ∧ xt = t then 120 else if k = 4 ∧ xt = t then 240 else if k = 5 ∧ xt = t then 300 else 0
/-- What there is around an event. -/
structure Sec (l : Nat → Nat → Int) (i : Nat) (B A Q : Bo) : Prop where
  pq : plT (i + 1) l = (Q, ((i + 1 : Nat) : Int), 0)
  at' : (agT i l (l i 1)).1.b = A ∧ (agT i l (l i 1)).2 = 0
  z : i = 0 → A = Bo.z
  w : Went B A
  bo : B.Ok
  ao : A.Ok
  qo : Q.Ok
  bsm : B.Sm
  asm : A.Sm
  qsm : Q.Sm
  s0 : (l i 0 = 2 ∧ l i 2 ≠ 0 → sumI Q.p0 ≤ sumI A.p0 ∧ sumI A.p0 - sumI Q.p0 ≤ 120 ∧ sumM Q.p0 = sumM A.p0) ∧ (¬ (l i 0 = 2 ∧ l i 2 ≠ 0) → sumI Q.p0 = sumI A.p0 + dgF (l i 0) (l i 2) 0)
  s1 : (l i 0 = 2 ∧ l i 2 ≠ 1 → sumI Q.p1 ≤ sumI A.p1 ∧ sumI A.p1 - sumI Q.p1 ≤ 120 ∧ sumM Q.p1 = sumM A.p1) ∧ (¬ (l i 0 = 2 ∧ l i 2 ≠ 1) → sumI Q.p1 = sumI A.p1 + dgF (l i 0) (l i 2) 1)
theorem sec_facts {n i : Nat} {l : Nat → Nat → Int} (hn : n ≤ 60) (hE : erA (evN l) n = 0) (hi : i < n) : ∃ A, Sec l i (stA (evN l) i).b A (stA (evN l) (i + 1)).b := by
  have h1 := erA_le hE (i + 1) (by omega)
  have h0 := erA_le hE i (by omega)
  obtain ⟨a1, a2, a3, a4⟩ := stA_succ h1
  have he := evOk_iff.1 a1
  have hs : 0 ≤ l i 1 ∧ l i 1 ≤ 1048576 := he.2.1
  have hso := stA_ok (ev := evN l) (k := i) (by omega)
  have ha := agT_sec (l := l) (to := l i 1) (by omega) h0 hs.1 hs.2 (fun j hj => ev_mono hE i hi j (by omega))
  have hsm := agT_sm i l (l i 1)
  have hsb := plT_sm i l
  have hsq := plT_sm (i + 1) l
  rw [plT_eq (by omega) h0] at hsb
  rw [plT_eq (by omega) h1] at hsq
  rw [ha] at hsm
  have ho := (passTF_ok hs hso).b
  have hm := passT_min (l i 1 - (stA (evN l) i).now).toNat (stA (evN l) i) (to := l i 1) (stA_min h0)
  have d0 := deed_sum ho hm (x := evN l i) a3 he.1.1 he.2.2.1 (t := 0) (.inl rfl)
  have d1 := deed_sum ho hm (x := evN l i) a3 he.1.1 he.2.2.1 (t := 1) (.inr rfl)
  refine ⟨(passTF (stA (evN l) i) (l i 1)).b, plT_eq (by omega) h1, by rw [ha]; exact ⟨rfl, rfl⟩, fun q => ?_, passT_went hs.2 _ _ hso, hso.b, ho, (stA_ok (by omega)).b, hsb, hsm, hsq, ?_, ?_⟩
  · subst q
    show (passTF G0 (l 0 1)).b = Bo.z
    unfold passTF
    rw [passT_stop (by simp [G0, Bo.z])]
    rfl
  · rw [a4]; exact d0
  · rw [a4]; exact d1
theorem pl_zero (f : Nat → Nat → Int) : Eng.pl 0 f = [] := rfl
theorem playT_idx {ev : Nat → Ev} {to : Int} : ∀ (k i : Nat) (s : Ga), (playT ev to k i s).2.1 ≤ i + k
  | 0, i, s => Nat.le_refl _
  | k + 1, i, s => by
    have ih := fun s => playT_idx (ev := ev) (to := to) k (i + 1) s
    unfold playT
    repeat' split
    all_goals first | (dsimp only; omega) | (refine Nat.le_trans (ih _) ?_; omega)
theorem plT_err {n : Nat} {l : Nat → Nat → Int} (hn : n ≤ 256) (h : (plT n l).2.2 ≠ 0) : (plT n l).1 = Bo.z ∧ 0 ≤ (plT n l).2.1 ∧ (plT n l).2.1 ≤ n := by
  have := playT_idx (ev := evN l) (to := 1048576) n 0 G0
  unfold plT at h ⊢
  rw [if_neg (by omega)] at h ⊢
  split
  · exact ⟨rfl, by dsimp only; omega, by dsimp only; omega⟩
  · rename_i q; rw [if_neg q] at h; exact absurd rfl h
structure Ac where
  g0 : Int
  g1 : Int
  e0 : Int
  e1 : Int
  v0 : Int
  v1 : Int
structure AcOk (i : Nat) (B : Bo) (a : Ac) : Prop where
  h0 : a.g0 = a.v0 + a.e0 + sumI B.p0
  h1 : a.g1 = a.v1 + a.e1 + sumI B.p1
  v0 : 0 ≤ a.v0
  v1 : 0 ≤ a.v1
  e0 : 0 ≤ a.e0
  e1 : 0 ≤ a.e1
  g0 : a.g0 ≤ 300 * i
  g1 : a.g1 ≤ 300 * i
def boC (b : Bo) : List SV := [.int .i64 b.per, .int .i64 b.pl, .bool b.run, .int .i64 b.g0, .int .i64 b.g1, rowP b.p0, rowP b.p1, rowP b.m0, rowP b.m1]
/-- What an event adds: given, ended, served. -/
def deF (k xt t : Int) (A Q : List Pen) : Int := if k = 2 ∧ xt ≠ t then sumI A - sumI Q else 0
def acT (k xt : Int) (B A Q : Bo) (a : Ac) : Nat → Ac
  | 0 => a
  | 1 => ⟨a.g0 + dgF k xt 0, a.g1, a.e0 + deF k xt 0 A.p0 Q.p0, a.e1, a.v0 + (sumI B.p0 - sumI A.p0), a.v1⟩
  | _ => ⟨a.g0 + dgF k xt 0, a.g1 + dgF k xt 1, a.e0 + deF k xt 0 A.p0 Q.p0, a.e1 + deF k xt 1 A.p1 Q.p1, a.v0 + (sumI B.p0 - sumI A.p0), a.v1 + (sumI B.p1 - sumI A.p1)⟩
theorem sum_bnd {l : List Pen} (h : lOk l) (hl : l.length ≤ 600) : (0 ≤ sumI l ∧ sumI l ≤ 600000) ∧ ∀ i, i < l.length → 0 ≤ pf l i 2 ∧ pf l i 2 ≤ 1000 := by
  have h1 := sum_max (M := 1000) (l := l) (fun p hp => (h.2 p hp).2)
  have h2 := sumI_pos (l := l) (fun p hp => (h.2 p hp).1)
  refine ⟨⟨h2.1, by omega⟩, fun i hi => ?_⟩
  have := lOk_pf h hi
  omega
theorem stT_len {n : Nat} {l : Nat → Nat → Int} {to : Int} (hn : n ≤ 1000000) : (stT n l to).1.length ≤ 3600 := by
  unfold stT
  split
  · exact Nat.zero_le _
  · exact Nat.le_trans (cmpT_len _ _) (agT_len hn)
theorem subV_rfl : ∀ l : List Vc, subV l l
  | [] => trivial
  | x :: l => ⟨by unfold subVk; cases x <;> simp, subV_rfl l⟩
theorem kind5 (k : Int) : (decide (k = 2) = true ∧ decide (k = 3) = false ∧ decide (k = 4) = false ∧ decide (k = 5) = false) ∨ (decide (k = 2) = false ∧ decide (k = 3) = true ∧ decide (k = 4) = false ∧ decide (k = 5) = false) ∨ (decide (k = 2) = false ∧ decide (k = 3) = false ∧ decide (k = 4) = true ∧ decide (k = 5) = false) ∨ (decide (k = 2) = false ∧ decide (k = 3) = false ∧ decide (k = 4) = false ∧ decide (k = 5) = true) ∨ (decide (k = 2) = false ∧ decide (k = 3) = false ∧ decide (k = 4) = false ∧ decide (k = 5) = false) := by
  simp only [decide_eq_true_eq, decide_eq_false_iff_not]
  omega
theorem agT_ok {n : Nat} {l : Nat → Nat → Int} {to : Int} (hn : n ≤ 256) : (agT n l to).1.b.Ok := by
  unfold agT
  split
  · exact G0_ok.b
  split
  · exact G0_ok.b
  · rename_i q
    exact (passTF_ok (in3_iff.1 (by simpa using q)) (playT_ok (ev := evN l) (to := to) n 0 G0 G0_ok G0_cnt (by omega))).b
/-- A part of a proof that is shown apart. -/
structure Wr (G : Prop) : Prop where
  h : G
def clockSecondsBase : BaseF := fun args => match args with
  | [.row n sz_l f_l, .int .i64 second] => some ((sz_l = 4 ∧ IntR n 4 f_l), .bool true)
  | _ => none
theorem clockSeconds_eq (n : Nat) (sz_l : Nat) (f_l : Nat → Nat → SV) (second : Int) : clockSecondsBase [.row n sz_l f_l, .int .i64 second] = some ((sz_l = 4 ∧ IntR n 4 f_l), .bool true) := rfl
noncomputable def clockSeconds_pre : (G : Prop) ×' (H : Prop) ×' (Wr G → Wr H → Base Try.prog 5 clockSecondsBase) := by
  apply PSigma.mk
  apply PSigma.mk
  intro hG hH
  intro args p v hq hp
  unfold clockSecondsBase at hq
  split at hq
  case h_2 => cases hq
  rename_i n sz_l f_l second
  cases hq
  obtain ⟨rfl, i_l⟩ := hp
  refine base_of (C := cx [] [] [(11, aliveBase), (12, playBase), (14, atBase), (16, strengthsBase), (20, sameBase), (21, sumPBase), (22, servedRBase)] [(5, 16, p5_16), (5, 48, p5_48), (5, 58, p5_58)] none) (cx_ok trivial ⟨alive_base, play_base, at_base, strengths_base, same_base, sumP_base, servedR_base, trivial⟩) rfl (g := 5) (fn := Try.f5)
    (args' := [.row n 4 (rowF .i64 (ivf f_l)), .int .i64 second]) (fn_5) rfl 1000 (by
    simp only [BdL, Bd, and_self, and_true, true_and]
    exact (fun i j hi hj => by rw [i_l i j hi hj]; trivial)) ⟨SameD.int i_l, SameD.rfl' _, trivial⟩ ?_
  generalize ivf f_l = l
  simp only [rowF_eq]
  simp only [alive_eq, play_eq, at_eq, strengths_eq, same_eq, sumP_eq, servedR_eq, p5_16, p5_48, p5_58, boS, rowP, pl_pf, plR_plT, atR_agT, stR_stT, pl_zero, Try.f5, go_sem, ↓reduceIte, Nat.reduceAdd, Nat.reduceSub, Nat.reduceMul, Nat.reduceEqDiff, Nat.reduceLT, Nat.reduceLeDiff, Int.reduceToNat, Int.reduceLE, Int.reduceLT, Int.reduceEq, Int.reduceNeg, reduceCtorEq]
  refine spl_intro (fun e1 => trivial) (fun e1 => ?_)
  have hn : n ≤ 60 := by simp only [decide_eq_false_iff_not] at e1; omega
  refine ⟨by omega, ?_⟩
  refine spl_intro (fun e2 => ?_) (fun e2 => ?_)
  · obtain ⟨z1, z2, z3⟩ := plT_err (n := n) (l := l) (by omega) (by simpa using e2)
    rw [z1]
    exact ⟨⟨intR_0, intR_0, intR_0, intR_0, by decide, by decide, by decide, by decide⟩, spl_yes (by decide) (spl_yes (decide_eq_true z2) (spl_yes (decide_eq_true z3) trivial))⟩
  rw [Bool.not_eq_false', decide_eq_true_eq] at e2
  have hE : erA (evN l) n = 0 := by rw [← plT_er (k := n) (l := l) (by omega)]; exact e2
  have hpl : plT n l = ((stA (evN l) n).b, (n : Int), 0) := plT_eq (Nat.le_trans hn (by decide)) hE
  simp only [hpl]
  refine spl_no (by simp) ?_
  refine loop_ofH { x : Nat × Ac // x.1 ≤ n ∧ AcOk x.1 (stA (evN l) x.1).b x.2 } (fun x => [(68, .int .i64 (x.1.1 : Int)), (67, .int .i64 (n : Int)), (66, .row n 4 fun i j => .int .i64 (l i j)), (11, .ptr 4 0), (10, .ptr 3 0), (9, .ptr 2 0), (8, .ptr 1 0), (5, .ptr 0 0), (4, .bool false), (1, .int .i64 second), (0, .row n 4 fun i j => .int .i64 (l i j))])
    (fun h x => ⟨[getB h.blks 0, .live 24 [.int .i64 x.1.2.g0, .int .i64 x.1.2.g1], .live 24 [.int .i64 x.1.2.e0, .int .i64 x.1.2.e1], .live 24 [.int .i64 x.1.2.v0, .int .i64 x.1.2.v1], .live 28 (boC (stA (evN l) x.1.1).b)], [.dead, .dead, .dead, .dead, .dead, .dead, .dead, .dead]⟩) (fun x => n - x.1.1) (fun _ => ⟨rfl, rfl⟩)
    ⟨(0, ⟨0, 0, 0, 0, 0, 0⟩), by omega, ⟨rfl, rfl, by decide, by decide, by decide, by decide, by decide, by decide⟩⟩ ?_ ?_
  · refine sub_fzB 4 4 5 rfl rfl rfl (sub_fzB 5 4 6 rfl rfl rfl (sub_fzB 6 4 7 rfl rfl rfl (sub_fzB 7 4 8 rfl rfl rfl ?_)))
    have z0 : (stA (evN l) 0).b = Bo.z := rfl
    simp only [z0, boC, Bo.z, rowP, List.length_nil, go_sem, ↓reduceIte, Nat.reduceAdd, Nat.reduceSub, Nat.reduceMul, Nat.reduceEqDiff, Nat.reduceLT, Nat.reduceLeDiff, Int.reduceToNat, Int.reduceLE, Int.reduceLT, Int.reduceEq, Int.reduceNeg, reduceCtorEq]
    (apply sub_of <;> simp only [go_sem, ↓reduceIte, Nat.reduceAdd, Nat.reduceSub, Nat.reduceMul, Nat.reduceEqDiff, Nat.reduceLT, Nat.reduceLeDiff, Int.reduceToNat, Int.reduceLE, Int.reduceLT, Int.reduceEq, Int.reduceNeg, reduceCtorEq] <;> (try simp [catF]) <;> (try exact fun j _ => Bd_nth (by simp [BdL, Bd]) j) <;> (try exact bd_setL (by simp [bdAs, BdL, Bd])) <;> (try exact nestF_bd _ _ _ _ _ _ _ _ _))
  rintro ⟨⟨i, a⟩, hi, ha⟩
  simp only at hi ha
  have wi : IntKind.i64.wrap ((i : Int) + 1) = ((i + 1 : Nat) : Int) := by rw [wrap_id (by omega) (by omega)]; omega
  by_cases hin : i < n
  · obtain ⟨A, hS⟩ := sec_facts hn hE hin
    have hpq := hS.pq
    obtain ⟨at1, at2⟩ := hS.at'
    have p1 := hS.w.per
    have p2 := hS.w.pl
    have p3 := hS.bo.per
    have p4 := hS.bo.pl
    have p5 := hS.ao.pl
    have m1 : IntKind.i64.wrap (A.per * 1200) = A.per * 1200 := wrap_id (by omega) (by omega)
    have m2 : IntKind.i64.wrap (A.per * 1200 + A.pl) = A.per * 1200 + A.pl := wrap_id (by omega) (by omega)
    have m3 : IntKind.i64.wrap ((stA (evN l) i).b.per * 1200) = A.per * 1200 := by rw [← p1]; exact m1
    have m4 : IntKind.i64.wrap (A.per * 1200 + A.pl - A.per * 1200) = A.pl := by rw [wrap_id (by omega) (by omega)]; omega
    have m5 : IntKind.i64.wrap (A.pl - (stA (evN l) i).b.pl) = A.pl - (stA (evN l) i).b.pl := wrap_id (by omega) (by omega)
    simp only [at1, at2, hpq, boC, rowP, wi, m1, m2, m3, m4, m5, Int.toNat_natCast, alive_eq, play_eq, at_eq, strengths_eq, same_eq, sumP_eq, servedR_eq, p5_16, p5_48, p5_58, boS, rowP, pl_pf, plR_plT, atR_agT, stR_stT, pl_zero, Try.f5, go_sem, ↓reduceIte, Nat.reduceAdd, Nat.reduceSub, Nat.reduceMul, Nat.reduceEqDiff, Nat.reduceLT, Nat.reduceLeDiff, Int.reduceToNat, Int.reduceLE, Int.reduceLT, Int.reduceEq, Int.reduceNeg, reduceCtorEq]
    have hbs := hS.bsm
    have has := hS.asm
    have hqs := hS.qsm
    unfold Bo.Sm at hbs has hqs
    refine spl_intro (fun _ => ?_) (fun h => by simp only [decide_eq_false_iff_not] at h; omega)
    refine ⟨by omega, by omega, by omega, ⟨by kernel_rfl, by kernel_rfl⟩, by omega, by omega, ⟨by omega, by omega⟩, ?_⟩
    have key : ∀ {L1 L2 L3 X : Prop}, (X → L1) → (X → L2) → (X → L3) → X → L1 ∧ L2 ∧ L3 := fun a b c x => ⟨a x, b x, c x⟩
    refine (fun (h : _ ∧ _ ∧ _) => spl_intro (fun q => ⟨⟨intR_0, intR_0, intR_0, intR_0, by omega, by omega, by omega, by omega⟩, spl_no ?a1 (spl_no ?a2 (spl_intro (fun r => ?a3) (fun _ => h.1)))⟩) (fun _ => spl_no ?a4 (spl_intro (fun r => spl_no ?a5 h.2.1) (fun _ => h.2.2)))) ?L
    case a1 =>
      have := hS.z (by simpa using q)
      rw [this]
      rfl
    case a2 => exact decide_eq_false (by omega)
    case a3 =>
      have h2 : A.pl = 0 := by rw [hS.z (by simpa using q)]; rfl
      simp only [decide_eq_true_eq] at r
      omega
    case a4 => exact decide_eq_false (by omega)
    case a5 => rw [hS.w.run (by simp only [decide_eq_true_eq] at r; omega)]; rfl
    obtain ⟨X5, hX5⟩ : ∃ X : Blk, X = .live 35 [.int .i64 (l i 0), .int .i64 (l i 1), .int .i64 (l i 2), .int .i64 (l i 3)] := ⟨_, rfl⟩
    refine key (fun hb => loop_ofH { t : Nat // t ≤ 2 } (fun t => [(135, .int .i64 (t.1 : Int)), (18, .int .i64 (A.pl - (stA (evN l) i).b.pl)), (17, .ptr 7 0), (14, .ptr 6 0), (13, .ptr 5 0), (12, .int .i64 (i : Int)), (68, .int .i64 (i : Int)), (67, .int .i64 (n : Int)), (66, .row n 4 fun i j => .int .i64 (l i j)), (11, .ptr 4 0), (10, .ptr 3 0), (9, .ptr 2 0), (8, .ptr 1 0), (5, .ptr 0 0), (4, .bool false), (1, .int .i64 second), (0, .row n 4 fun i j => .int .i64 (l i j))])
        (fun h t => ⟨[.live 28 (boC (stA (evN l) n).b), .live 24 [.int .i64 (acT (l i 0) (l i 2) (stA (evN l) i).b A (stA (evN l) (i + 1)).b a t.1).g0, .int .i64 (acT (l i 0) (l i 2) (stA (evN l) i).b A (stA (evN l) (i + 1)).b a t.1).g1], .live 24 [.int .i64 (acT (l i 0) (l i 2) (stA (evN l) i).b A (stA (evN l) (i + 1)).b a t.1).e0, .int .i64 (acT (l i 0) (l i 2) (stA (evN l) i).b A (stA (evN l) (i + 1)).b a t.1).e1], .live 24 [.int .i64 (acT (l i 0) (l i 2) (stA (evN l) i).b A (stA (evN l) (i + 1)).b a t.1).v0, .int .i64 (acT (l i 0) (l i 2) (stA (evN l) i).b A (stA (evN l) (i + 1)).b a t.1).v1], .live 28 (boC (stA (evN l) i).b), X5, .live 28 (boC (stA (evN l) (i + 1)).b), .live 28 (boC A)], [.dead, .dead, .dead, .dead, .dead, .dead, .dead, .dead, .dead, .dead, .dead, .dead, .dead, .dead, .dead, .dead]⟩) (fun t => 2 - t.1) (fun _ => ⟨rfl, rfl⟩) ⟨0, by omega⟩ (by simp only [hX5, acT, boC, rowP, go_sem, ↓reduceIte, Nat.reduceAdd, Nat.reduceSub, Nat.reduceMul, Nat.reduceEqDiff, Nat.reduceLT, Nat.reduceLeDiff, Int.reduceToNat, Int.reduceLE, Int.reduceLT, Int.reduceEq, Int.reduceNeg, reduceCtorEq]; (apply sub_of <;> simp only [go_sem, ↓reduceIte, Nat.reduceAdd, Nat.reduceSub, Nat.reduceMul, Nat.reduceEqDiff, Nat.reduceLT, Nat.reduceLeDiff, Int.reduceToNat, Int.reduceLE, Int.reduceLT, Int.reduceEq, Int.reduceNeg, reduceCtorEq] <;> (try simp [catF]) <;> (try exact fun j _ => Bd_nth (by simp [BdL, Bd]) j) <;> (try exact bd_setL (by simp [bdAs, BdL, Bd])) <;> (try exact nestF_bd _ _ _ _ _ _ _ _ _))) hb) (fun hb => loop_ofH { t : Nat // t ≤ 2 } (fun t => [(135, .int .i64 (t.1 : Int)), (18, .int .i64 (A.pl - (stA (evN l) i).b.pl)), (17, .ptr 7 0), (14, .ptr 6 0), (13, .ptr 5 0), (12, .int .i64 (i : Int)), (68, .int .i64 (i : Int)), (67, .int .i64 (n : Int)), (66, .row n 4 fun i j => .int .i64 (l i j)), (11, .ptr 4 0), (10, .ptr 3 0), (9, .ptr 2 0), (8, .ptr 1 0), (5, .ptr 0 0), (4, .bool false), (1, .int .i64 second), (0, .row n 4 fun i j => .int .i64 (l i j))])
        (fun h t => ⟨[.live 28 (boC (stA (evN l) n).b), .live 24 [.int .i64 (acT (l i 0) (l i 2) (stA (evN l) i).b A (stA (evN l) (i + 1)).b a t.1).g0, .int .i64 (acT (l i 0) (l i 2) (stA (evN l) i).b A (stA (evN l) (i + 1)).b a t.1).g1], .live 24 [.int .i64 (acT (l i 0) (l i 2) (stA (evN l) i).b A (stA (evN l) (i + 1)).b a t.1).e0, .int .i64 (acT (l i 0) (l i 2) (stA (evN l) i).b A (stA (evN l) (i + 1)).b a t.1).e1], .live 24 [.int .i64 (acT (l i 0) (l i 2) (stA (evN l) i).b A (stA (evN l) (i + 1)).b a t.1).v0, .int .i64 (acT (l i 0) (l i 2) (stA (evN l) i).b A (stA (evN l) (i + 1)).b a t.1).v1], .live 28 (boC (stA (evN l) i).b), X5, .live 28 (boC (stA (evN l) (i + 1)).b), .live 28 (boC A)], [.dead, .dead, .dead, .dead, .dead, .dead, .dead, .dead, .dead, .dead, .dead, .dead, .dead, .dead, .dead, .dead]⟩) (fun t => 2 - t.1) (fun _ => ⟨rfl, rfl⟩) ⟨0, by omega⟩ (by simp only [hX5, acT, boC, rowP, go_sem, ↓reduceIte, Nat.reduceAdd, Nat.reduceSub, Nat.reduceMul, Nat.reduceEqDiff, Nat.reduceLT, Nat.reduceLeDiff, Int.reduceToNat, Int.reduceLE, Int.reduceLT, Int.reduceEq, Int.reduceNeg, reduceCtorEq]; (apply sub_of <;> simp only [go_sem, ↓reduceIte, Nat.reduceAdd, Nat.reduceSub, Nat.reduceMul, Nat.reduceEqDiff, Nat.reduceLT, Nat.reduceLeDiff, Int.reduceToNat, Int.reduceLE, Int.reduceLT, Int.reduceEq, Int.reduceNeg, reduceCtorEq] <;> (try simp [catF]) <;> (try exact fun j _ => Bd_nth (by simp [BdL, Bd]) j) <;> (try exact bd_setL (by simp [bdAs, BdL, Bd])) <;> (try exact nestF_bd _ _ _ _ _ _ _ _ _))) hb) (fun hb => loop_ofH { t : Nat // t ≤ 2 } (fun t => [(135, .int .i64 (t.1 : Int)), (18, .int .i64 (A.pl - (stA (evN l) i).b.pl)), (17, .ptr 7 0), (14, .ptr 6 0), (13, .ptr 5 0), (12, .int .i64 (i : Int)), (68, .int .i64 (i : Int)), (67, .int .i64 (n : Int)), (66, .row n 4 fun i j => .int .i64 (l i j)), (11, .ptr 4 0), (10, .ptr 3 0), (9, .ptr 2 0), (8, .ptr 1 0), (5, .ptr 0 0), (4, .bool false), (1, .int .i64 second), (0, .row n 4 fun i j => .int .i64 (l i j))])
        (fun h t => ⟨[.live 28 (boC (stA (evN l) n).b), .live 24 [.int .i64 (acT (l i 0) (l i 2) (stA (evN l) i).b A (stA (evN l) (i + 1)).b a t.1).g0, .int .i64 (acT (l i 0) (l i 2) (stA (evN l) i).b A (stA (evN l) (i + 1)).b a t.1).g1], .live 24 [.int .i64 (acT (l i 0) (l i 2) (stA (evN l) i).b A (stA (evN l) (i + 1)).b a t.1).e0, .int .i64 (acT (l i 0) (l i 2) (stA (evN l) i).b A (stA (evN l) (i + 1)).b a t.1).e1], .live 24 [.int .i64 (acT (l i 0) (l i 2) (stA (evN l) i).b A (stA (evN l) (i + 1)).b a t.1).v0, .int .i64 (acT (l i 0) (l i 2) (stA (evN l) i).b A (stA (evN l) (i + 1)).b a t.1).v1], .live 28 (boC (stA (evN l) i).b), X5, .live 28 (boC (stA (evN l) (i + 1)).b), .live 28 (boC A)], [.dead, .dead, .dead, .dead, .dead, .dead, .dead, .dead, .dead, .dead, .dead, .dead, .dead, .dead, .dead, .dead]⟩) (fun t => 2 - t.1) (fun _ => ⟨rfl, rfl⟩) ⟨0, by omega⟩ (by simp only [hX5, acT, boC, rowP, go_sem, ↓reduceIte, Nat.reduceAdd, Nat.reduceSub, Nat.reduceMul, Nat.reduceEqDiff, Nat.reduceLT, Nat.reduceLeDiff, Int.reduceToNat, Int.reduceLE, Int.reduceLT, Int.reduceEq, Int.reduceNeg, reduceCtorEq]; (apply sub_of <;> simp only [go_sem, ↓reduceIte, Nat.reduceAdd, Nat.reduceSub, Nat.reduceMul, Nat.reduceEqDiff, Nat.reduceLT, Nat.reduceLeDiff, Int.reduceToNat, Int.reduceLE, Int.reduceLT, Int.reduceEq, Int.reduceNeg, reduceCtorEq] <;> (try simp [catF]) <;> (try exact fun j _ => Bd_nth (by simp [BdL, Bd]) j) <;> (try exact bd_setL (by simp [bdAs, BdL, Bd])) <;> (try exact nestF_bd _ _ _ _ _ _ _ _ _))) hb) ?_
    have hI : ∀ t : { t : Nat // t ≤ 2 }, bdAs 8 16 [(135, .int .i64 (t.1 : Int)), (18, .int .i64 (A.pl - (stA (evN l) i).b.pl)), (17, .ptr 7 0), (14, .ptr 6 0), (13, .ptr 5 0), (12, .int .i64 (i : Int)), (68, .int .i64 (i : Int)), (67, .int .i64 (n : Int)), (66, .row n 4 fun i j => .int .i64 (l i j)), (11, .ptr 4 0), (10, .ptr 3 0), (9, .ptr 2 0), (8, .ptr 1 0), (5, .ptr 0 0), (4, .bool false), (1, .int .i64 second), (0, .row n 4 fun i j => .int .i64 (l i j))] ∧ bdB 8 16 ([.live 28 (boC (stA (evN l) n).b), .live 24 [.int .i64 (acT (l i 0) (l i 2) (stA (evN l) i).b A (stA (evN l) (i + 1)).b a t.1).g0, .int .i64 (acT (l i 0) (l i 2) (stA (evN l) i).b A (stA (evN l) (i + 1)).b a t.1).g1], .live 24 [.int .i64 (acT (l i 0) (l i 2) (stA (evN l) i).b A (stA (evN l) (i + 1)).b a t.1).e0, .int .i64 (acT (l i 0) (l i 2) (stA (evN l) i).b A (stA (evN l) (i + 1)).b a t.1).e1], .live 24 [.int .i64 (acT (l i 0) (l i 2) (stA (evN l) i).b A (stA (evN l) (i + 1)).b a t.1).v0, .int .i64 (acT (l i 0) (l i 2) (stA (evN l) i).b A (stA (evN l) (i + 1)).b a t.1).v1], .live 28 (boC (stA (evN l) i).b), X5, .live 28 (boC (stA (evN l) (i + 1)).b), .live 28 (boC A)] : List Blk) ∧ bdV 8 16 ([.dead, .dead, .dead, .dead, .dead, .dead, .dead, .dead, .dead, .dead, .dead, .dead, .dead, .dead, .dead, .dead] : List Vc) := by
      intro t
      refine ⟨?_, ?_, ?_⟩ <;> simp only [hX5, boC, rowP, go_sem, ↓reduceIte, Nat.reduceAdd, Nat.reduceSub, Nat.reduceMul, Nat.reduceEqDiff, Nat.reduceLT, Nat.reduceLeDiff, Int.reduceToNat, Int.reduceLE, Int.reduceLT, Int.reduceEq, Int.reduceNeg, reduceCtorEq] <;> (try simp) <;> (try exact fun j _ => Bd_nth (by simp [BdL, Bd]) j) <;> (try exact bd_setL (by simp [bdAs, BdL, Bd])) <;> (try exact nestF_bd _ _ _ _ _ _ _ _ _)
    simp only [hX5, boC, rowP] at hI
    have hb0 := sum_bnd hS.bo.p0 hbs.1
    have hb1 := sum_bnd hS.bo.p1 hbs.2.1
    have ha0 := sum_bnd hS.ao.p0 has.1
    have ha1 := sum_bnd hS.ao.p1 has.2.1
    have hq0 := sum_bnd hS.qo.p0 hqs.1
    have hq1 := sum_bnd hS.qo.p1 hqs.2.1
    rintro ⟨t, ht⟩
    obtain rfl | rfl | rfl : t = 0 ∨ t = 1 ∨ t = 2 := by omega
    · clear key
      revert ht n l second f_l i a A X5
      exact hG.h
    · clear key
      revert ht n l second f_l i a A X5
      exact hH.h
    · have d2 : decide (((2 : Nat) : Int) < 2) = false := by decide
      simp only [acT, d2, hX5, boC, rowP, alive_eq, play_eq, at_eq, strengths_eq, same_eq, sumP_eq, servedR_eq, p5_16, p5_48, p5_58, boS, rowP, pl_pf, plR_plT, atR_agT, stR_stT, pl_zero, Try.f5, go_sem, ↓reduceIte, Nat.reduceAdd, Nat.reduceSub, Nat.reduceMul, Nat.reduceEqDiff, Nat.reduceLT, Nat.reduceLeDiff, Int.reduceToNat, Int.reduceLE, Int.reduceLT, Int.reduceEq, Int.reduceNeg, reduceCtorEq]
      refine ⟨⟨(i + 1, acT (l i 0) (l i 2) (stA (evN l) i).b A (stA (evN l) (i + 1)).b a 2), by omega, ?_⟩, by simp only []; omega, ?_⟩
      · have w0 := hS.w.s0
        have w1 := hS.w.s1
        have ss0 := hS.s0
        have ss1 := hS.s1
        obtain ⟨c1, c2, c3, c4, c5, c6, c7, c8⟩ := ha
        simp only [acT]
        have f0 : (l i 0 = 2 ∧ l i 2 ≠ 0 → deF (l i 0) (l i 2) 0 A.p0 (stA (evN l) (i + 1)).b.p0 = sumI A.p0 - sumI (stA (evN l) (i + 1)).b.p0 ∧ dgF (l i 0) (l i 2) 0 = 0) ∧ (¬ (l i 0 = 2 ∧ l i 2 ≠ 0) → deF (l i 0) (l i 2) 0 A.p0 (stA (evN l) (i + 1)).b.p0 = 0) ∧ 0 ≤ dgF (l i 0) (l i 2) 0 ∧ dgF (l i 0) (l i 2) 0 ≤ 300 := by
          unfold deF dgF
          repeat' split
          all_goals omega
        have f1 : (l i 0 = 2 ∧ l i 2 ≠ 1 → deF (l i 0) (l i 2) 1 A.p1 (stA (evN l) (i + 1)).b.p1 = sumI A.p1 - sumI (stA (evN l) (i + 1)).b.p1 ∧ dgF (l i 0) (l i 2) 1 = 0) ∧ (¬ (l i 0 = 2 ∧ l i 2 ≠ 1) → deF (l i 0) (l i 2) 1 A.p1 (stA (evN l) (i + 1)).b.p1 = 0) ∧ 0 ≤ dgF (l i 0) (l i 2) 1 ∧ dgF (l i 0) (l i 2) 1 ≤ 300 := by
          unfold deF dgF
          repeat' split
          all_goals omega
        have k0 : sumI (stA (evN l) (i + 1)).b.p0 + deF (l i 0) (l i 2) 0 A.p0 (stA (evN l) (i + 1)).b.p0 = sumI A.p0 + dgF (l i 0) (l i 2) 0 ∧ 0 ≤ deF (l i 0) (l i 2) 0 A.p0 (stA (evN l) (i + 1)).b.p0 := by
          by_cases g : l i 0 = 2 ∧ l i 2 ≠ 0
          · have := ss0.1 g; have := f0.1 g; omega
          · have := ss0.2 g; have := f0.2.1 g; omega
        have k1 : sumI (stA (evN l) (i + 1)).b.p1 + deF (l i 0) (l i 2) 1 A.p1 (stA (evN l) (i + 1)).b.p1 = sumI A.p1 + dgF (l i 0) (l i 2) 1 ∧ 0 ≤ deF (l i 0) (l i 2) 1 A.p1 (stA (evN l) (i + 1)).b.p1 := by
          by_cases g : l i 0 = 2 ∧ l i 2 ≠ 1
          · have := ss1.1 g; have := f1.1 g; omega
          · have := ss1.2 g; have := f1.2.1 g; omega
        have f02 := f0.2.2
        have f12 := f1.2.2
        clear f0 f1 ss0 ss1
        constructor <;> simp only [] <;> omega
      · apply sub_of <;> simp only [wi, acT, go_sem, ↓reduceIte, Nat.reduceAdd, Nat.reduceSub, Nat.reduceMul, Nat.reduceEqDiff, Nat.reduceLT, Nat.reduceLeDiff, Int.reduceToNat, Int.reduceLE, Int.reduceLT, Int.reduceEq, Int.reduceNeg, reduceCtorEq] <;> (try simp) <;> (try exact fun j _ => Bd_nth (by simp [BdL, Bd]) j) <;> (try exact bd_setL (by simp [bdAs, BdL, Bd])) <;> (try exact nestF_bd _ _ _ _ _ _ _ _ _)
  · obtain rfl : i = n := by omega
    simp only [boC, rowP, Int.toNat_natCast, alive_eq, play_eq, at_eq, strengths_eq, same_eq, sumP_eq, servedR_eq, p5_16, p5_48, p5_58, boS, rowP, pl_pf, plR_plT, atR_agT, stR_stT, pl_zero, Try.f5, go_sem, ↓reduceIte, Nat.reduceAdd, Nat.reduceSub, Nat.reduceMul, Nat.reduceEqDiff, Nat.reduceLT, Nat.reduceLeDiff, Int.reduceToNat, Int.reduceLE, Int.reduceLT, Int.reduceEq, Int.reduceNeg, reduceCtorEq]
    refine spl_no (by simp) ?_
    have hok := stA_ok (ev := evN l) (k := i) (by omega)
    have hsm := plT_sm i l
    rw [hpl] at hsm
    unfold Bo.Sm at hsm
    simp only at hsm
    have hb0 := sum_bnd hok.b.p0 hsm.1
    have hb1 := sum_bnd hok.b.p1 hsm.2.1
    obtain ⟨c1, c2, c3, c4, c5, c6, c7, c8⟩ := ha
    refine loop_ofH { t : Nat // t ≤ 2 } (fun t => [(281, .int .i64 (t.1 : Int)), (10, .ptr 3 0), (9, .ptr 2 0), (8, .ptr 1 0), (5, .ptr 0 0), (4, .bool false), (1, .int .i64 second), (0, .row i 4 fun i j => .int .i64 (l i j))]) (fun h _ => h) (fun t => 2 - t.1) (fun _ => ⟨rfl, rfl⟩) ⟨0, by omega⟩ (by (apply sub_of <;> simp only [go_sem, ↓reduceIte, Nat.reduceAdd, Nat.reduceSub, Nat.reduceMul, Nat.reduceEqDiff, Nat.reduceLT, Nat.reduceLeDiff, Int.reduceToNat, Int.reduceLE, Int.reduceLT, Int.reduceEq, Int.reduceNeg, reduceCtorEq] <;> (try simp [catF]) <;> (try exact fun j _ => Bd_nth (by simp [BdL, Bd]) j) <;> (try exact bd_setL (by simp [bdAs, BdL, Bd])) <;> (try exact nestF_bd _ _ _ _ _ _ _ _ _))) ?_
    rintro ⟨t, ht⟩
    obtain rfl | rfl | rfl : t = 0 ∨ t = 1 ∨ t = 2 := by omega
    · have y1 : IntKind.i64.wrap (a.v0 + a.e0) = a.v0 + a.e0 := wrap_id (by omega) (by omega)
      have y2 : IntKind.i64.wrap (a.v0 + a.e0 + sumI (stA (evN l) i).b.p0) = a.g0 := by rw [wrap_id (by omega) (by omega)]; omega
      simp only [y1, y2, alive_eq, play_eq, at_eq, strengths_eq, same_eq, sumP_eq, servedR_eq, p5_16, p5_48, p5_58, boS, rowP, pl_pf, plR_plT, atR_agT, stR_stT, pl_zero, Try.f5, go_sem, ↓reduceIte, Nat.reduceAdd, Nat.reduceSub, Nat.reduceMul, Nat.reduceEqDiff, Nat.reduceLT, Nat.reduceLeDiff, Int.reduceToNat, Int.reduceLE, Int.reduceLT, Int.reduceEq, Int.reduceNeg, reduceCtorEq]
      refine spl_intro (fun _ => ⟨by omega, ⟨by omega, hb0.2⟩, ⟨by kernel_rfl, by kernel_rfl⟩, by omega, by omega, by omega, ⟨⟨0 + 1, by omega⟩, by simp only []; omega, ?_⟩⟩) (fun h => absurd h (by simp))
      apply sub_of <;> simp only [go_sem, ↓reduceIte, Nat.reduceAdd, Nat.reduceSub, Nat.reduceMul, Nat.reduceEqDiff, Nat.reduceLT, Nat.reduceLeDiff, Int.reduceToNat, Int.reduceLE, Int.reduceLT, Int.reduceEq, Int.reduceNeg, reduceCtorEq] <;> (try simp) <;> (try exact fun j _ => Bd_nth (by simp [BdL, Bd]) j) <;> (try exact bd_setL (by simp [bdAs, BdL, Bd])) <;> (try exact nestF_bd _ _ _ _ _ _ _ _ _)
      all_goals rfl
    · have y1 : IntKind.i64.wrap (a.v1 + a.e1) = a.v1 + a.e1 := wrap_id (by omega) (by omega)
      have y2 : IntKind.i64.wrap (a.v1 + a.e1 + sumI (stA (evN l) i).b.p1) = a.g1 := by rw [wrap_id (by omega) (by omega)]; omega
      simp only [y1, y2, alive_eq, play_eq, at_eq, strengths_eq, same_eq, sumP_eq, servedR_eq, p5_16, p5_48, p5_58, boS, rowP, pl_pf, plR_plT, atR_agT, stR_stT, pl_zero, Try.f5, go_sem, ↓reduceIte, Nat.reduceAdd, Nat.reduceSub, Nat.reduceMul, Nat.reduceEqDiff, Nat.reduceLT, Nat.reduceLeDiff, Int.reduceToNat, Int.reduceLE, Int.reduceLT, Int.reduceEq, Int.reduceNeg, reduceCtorEq]
      refine spl_intro (fun _ => ⟨by omega, ⟨by omega, hb1.2⟩, ⟨by kernel_rfl, by kernel_rfl⟩, by omega, by omega, by omega, ⟨⟨1 + 1, by omega⟩, by simp only []; omega, ?_⟩⟩) (fun h => absurd h (by simp))
      apply sub_of <;> simp only [go_sem, ↓reduceIte, Nat.reduceAdd, Nat.reduceSub, Nat.reduceMul, Nat.reduceEqDiff, Nat.reduceLT, Nat.reduceLeDiff, Int.reduceToNat, Int.reduceLE, Int.reduceLT, Int.reduceEq, Int.reduceNeg, reduceCtorEq] <;> (try simp) <;> (try exact fun j _ => Bd_nth (by simp [BdL, Bd]) j) <;> (try exact bd_setL (by simp [bdAs, BdL, Bd])) <;> (try exact nestF_bd _ _ _ _ _ _ _ _ _)
      all_goals rfl
    · have d2 : decide (((2 : Nat) : Int) < 2) = false := by decide
      simp only [d2, alive_eq, play_eq, at_eq, strengths_eq, same_eq, sumP_eq, servedR_eq, p5_16, p5_48, p5_58, boS, rowP, pl_pf, plR_plT, atR_agT, stR_stT, pl_zero, Try.f5, go_sem, ↓reduceIte, Nat.reduceAdd, Nat.reduceSub, Nat.reduceMul, Nat.reduceEqDiff, Nat.reduceLT, Nat.reduceLeDiff, Int.reduceToNat, Int.reduceLE, Int.reduceLT, Int.reduceEq, Int.reduceNeg, reduceCtorEq]
      have hag : (agT i l second).2 ≠ 0 → agT i l second = (G0, 2) := fun h => by
        unfold agT at h ⊢
        rw [if_neg (by rw [e2]; simp)] at h ⊢
        split
        · rfl
        · rename_i q; rw [if_neg q] at h; exact absurd rfl h
      refine ⟨by omega, spl_intro (fun f1 => ?_) (fun f1 => ⟨by omega, ?_⟩)⟩
      · rw [hag (by simpa using f1)]
        exact ⟨⟨intR_0, intR_0, intR_0, intR_0, by decide, by decide, by decide, by decide⟩, spl_yes (by decide) (spl_yes (by decide) trivial)⟩
      rw [Bool.not_eq_false', decide_eq_true_eq] at f1
      obtain ⟨r0, k, hk, r1, r2, r3, r4⟩ := stT_str f1
      have hAk := agT_ok (n := i) (l := l) (to := second) (by omega)
      obtain ⟨a1, a2⟩ := hAk.per
      obtain ⟨a3, a4⟩ := hAk.pl
      have hlen := stT_len (n := i) (l := l) (to := second) (by omega)
      generalize hT : (stT i l second).1 = T at *
      generalize hA : (agT i l second).1.b = A at *
      refine loop_ofH { j : Nat // j ≤ T.length } (fun j => [(332, .int .i64 (j.1 : Int)), (331, .int .i64 (T.length : Int)), (330, .row T.length 3 fun i j => .int .i64 (pf T i j)), (30, .int .i64 (stT i l second).2), (31, .row T.length 3 fun i j => .int .i64 (pf T i j)), (29, .ptr 5 0), (4, .bool false)]) (fun h _ => h) (fun j => T.length - j.1) (fun _ => ⟨rfl, rfl⟩) ⟨0, by omega⟩ (by (apply sub_of <;> simp only [go_sem, ↓reduceIte, Nat.reduceAdd, Nat.reduceSub, Nat.reduceMul, Nat.reduceEqDiff, Nat.reduceLT, Nat.reduceLeDiff, Int.reduceToNat, Int.reduceLE, Int.reduceLT, Int.reduceEq, Int.reduceNeg, reduceCtorEq] <;> (try simp [catF]) <;> (try exact fun j _ => Bd_nth (by simp [BdL, Bd]) j) <;> (try exact bd_setL (by simp [bdAs, BdL, Bd])) <;> (try exact nestF_bd _ _ _ _ _ _ _ _ _))) ?_
      rintro ⟨j, hj⟩
      have wj : IntKind.i64.wrap ((j : Int) + 1) = ((j + 1 : Nat) : Int) := by rw [wrap_id (by omega) (by omega)]; omega
      have m1 : IntKind.i64.wrap (A.per * 1200) = A.per * 1200 := wrap_id (by omega) (by omega)
      have m2 : IntKind.i64.wrap (A.per * 1200 + A.pl) = A.per * 1200 + A.pl := wrap_id (by omega) (by omega)
      have fin : ∀ b : Bool, b = decide (0 < T.length) → spl (decide (0 < A.per)) (spl (b == true) True (SV.bool false = SV.bool true)) (spl (b == decide (0 < A.pl)) True (SV.bool false = SV.bool true)) := fun b hb => by
        subst hb
        refine spl_intro (fun y => spl_yes ?_ trivial) (fun y => spl_yes ?_ trivial)
        · rw [decide_eq_true_eq] at y
          rw [decide_eq_true (r4.2 (by omega))]
          rfl
        · rw [decide_eq_false_iff_not] at y
          rw [beq_iff_eq, Bool.eq_iff_iff, decide_eq_true_eq, decide_eq_true_eq]
          constructor
          · intro g; have := r4.1 g; omega
          · intro g; exact r4.2 (by omega)
      rcases Nat.eq_zero_or_pos j with rfl | hj0
      · simp only [List.append_eq, wj, m1, m2, Int.toNat_natCast, alive_eq, play_eq, at_eq, strengths_eq, same_eq, sumP_eq, servedR_eq, p5_16, p5_48, p5_58, boS, rowP, pl_pf, plR_plT, atR_agT, stR_stT, pl_zero, Try.f5, go_sem, ↓reduceIte, Nat.reduceAdd, Nat.reduceSub, Nat.reduceMul, Nat.reduceEqDiff, Nat.reduceLT, Nat.reduceLeDiff, Int.reduceToNat, Int.reduceLE, Int.reduceLT, Int.reduceEq, Int.reduceNeg, reduceCtorEq]
        refine spl_intro (fun q => ⟨by simp only [decide_eq_true_eq] at q; omega, ⟨by as_aux_lemma => kernel_rfl, by as_aux_lemma => kernel_rfl⟩, ?_⟩) (fun q => ?_)
        · simp only [decide_eq_true_eq] at q
          have u1 := r1 0 (by omega)
          have u2 := r2 (by omega)
          refine ⟨by omega, spl_no (decide_eq_false (by omega)) ⟨by omega, spl_no (decide_eq_false (by omega)) ⟨by omega, spl_no (decide_eq_false (by omega)) ⟨by omega, spl_no (decide_eq_false (by omega)) (spl_no (by decide) (spl_yes (by decide) (spl_no (by rw [u2]; rfl) (spl_no (decide_eq_false (by omega)) ⟨⟨0 + 1, by omega⟩, by simp only []; omega, ?_⟩))))⟩⟩⟩⟩
          apply sub_of <;> simp only [go_sem, ↓reduceIte, Nat.reduceAdd, Nat.reduceSub, Nat.reduceMul, Nat.reduceEqDiff, Nat.reduceLT, Nat.reduceLeDiff, Int.reduceToNat, Int.reduceLE, Int.reduceLT, Int.reduceEq, Int.reduceNeg, reduceCtorEq] <;> (try simp) <;> (try exact fun j _ => Bd_nth (by simp [BdL, Bd]) j) <;> (try exact bd_setL (by simp [bdAs, BdL, Bd])) <;> (try exact nestF_bd _ _ _ _ _ _ _ _ _)
        · refine spl_yes (decide_eq_true r0) (fin _ ?_)
          rw [Bool.eq_iff_iff, decide_eq_true_eq, decide_eq_true_eq]
          omega
      · obtain ⟨c, rfl⟩ : ∃ c, j = c + 1 := ⟨j - 1, by omega⟩
        have wc : IntKind.i64.wrap (((c + 1 : Nat) : Int) - 1) = (c : Int) := by rw [wrap_id (by omega) (by omega)]; omega
        simp only [List.append_eq, wj, wc, m1, m2, Int.toNat_natCast, alive_eq, play_eq, at_eq, strengths_eq, same_eq, sumP_eq, servedR_eq, p5_16, p5_48, p5_58, boS, rowP, pl_pf, plR_plT, atR_agT, stR_stT, pl_zero, Try.f5, go_sem, ↓reduceIte, Nat.reduceAdd, Nat.reduceSub, Nat.reduceMul, Nat.reduceEqDiff, Nat.reduceLT, Nat.reduceLeDiff, Int.reduceToNat, Int.reduceLE, Int.reduceLT, Int.reduceEq, Int.reduceNeg, reduceCtorEq]
        refine spl_intro (fun q => ⟨by simp only [decide_eq_true_eq] at q; omega, ⟨by as_aux_lemma => kernel_rfl, by as_aux_lemma => kernel_rfl⟩, ?_⟩) (fun q => ?_)
        · simp only [decide_eq_true_eq] at q
          have u1 := r1 (c + 1) (by omega)
          have u3 := r3 c (by omega)
          refine ⟨by omega, spl_no (decide_eq_false (by omega)) ⟨by omega, spl_no (decide_eq_false (by omega)) ⟨by omega, spl_no (decide_eq_false (by omega)) ⟨by omega, spl_no (decide_eq_false (by omega)) (spl_yes (decide_eq_true (by omega)) ⟨by omega, spl_no ?_ ⟨by omega, spl_no (decide_eq_false (by omega)) (spl_no (decide_eq_false (by omega)) (spl_no (decide_eq_false (by omega)) ⟨⟨c + 1 + 1, by omega⟩, by simp only []; omega, ?_⟩))⟩⟩)⟩⟩⟩⟩
          · rw [Bool.and_eq_false_iff, decide_eq_false_iff_not, decide_eq_false_iff_not]
            have := u3.1
            omega
          · apply sub_of <;> simp only [go_sem, ↓reduceIte, Nat.reduceAdd, Nat.reduceSub, Nat.reduceMul, Nat.reduceEqDiff, Nat.reduceLT, Nat.reduceLeDiff, Int.reduceToNat, Int.reduceLE, Int.reduceLT, Int.reduceEq, Int.reduceNeg, reduceCtorEq] <;> (try simp) <;> (try exact fun j _ => Bd_nth (by simp [BdL, Bd]) j) <;> (try exact bd_setL (by simp [bdAs, BdL, Bd])) <;> (try exact nestF_bd _ _ _ _ _ _ _ _ _)
        · refine spl_yes (decide_eq_true r0) (fin _ ?_)
          rw [Bool.eq_iff_iff, decide_eq_true_eq, decide_eq_true_eq]
          omega
theorem clockSeconds_t0 : clockSeconds_pre.1 := by
  intro n
  unhygienic intros
  have hpf : (∀ j, j < (stA (evN l) i).b.p0.length → 0 ≤ pf (stA (evN l) i).b.p0 j 2 ∧ pf (stA (evN l) i).b.p0 j 2 ≤ 1000) ∧ (∀ j, j < A.p0.length → 0 ≤ pf A.p0 j 2 ∧ pf A.p0 j 2 ≤ 1000) ∧ (∀ j, j < (stA (evN l) (i + 1)).b.p0.length → 0 ≤ pf (stA (evN l) (i + 1)).b.p0 j 2 ∧ pf (stA (evN l) (i + 1)).b.p0 j 2 ≤ 1000) := ⟨hb0.2, ha0.2, hq0.2⟩
  obtain ⟨hb', _⟩ := hb0
  obtain ⟨ha', _⟩ := ha0
  obtain ⟨hq', _⟩ := hq0
  obtain ⟨c1, c2, c3, c4, c5, c6, c7, c8⟩ := ha
  have w0 := hS.w.s0
  have ss := hS.s0
  have hn2 := nS_2 A.p0
  have y1 : IntKind.i64.wrap (2 * (A.pl - (stA (evN l) i).b.pl)) = 2 * (A.pl - (stA (evN l) i).b.pl) := wrap_id (by omega) (by omega)
  have y2 : IntKind.i64.wrap (sumI (stA (evN l) i).b.p0 - sumI A.p0) = sumI (stA (evN l) i).b.p0 - sumI A.p0 := wrap_id (by omega) (by omega)
  have y3 : IntKind.i64.wrap (sumI A.p0 - sumI (stA (evN l) (i + 1)).b.p0) = sumI A.p0 - sumI (stA (evN l) (i + 1)).b.p0 := wrap_id (by omega) (by omega)
  have y4 : IntKind.i64.wrap (a.v0 + (sumI (stA (evN l) i).b.p0 - sumI A.p0)) = a.v0 + (sumI (stA (evN l) i).b.p0 - sumI A.p0) := wrap_id (by omega) (by omega)
  have y5 : IntKind.i64.wrap (a.e0 + (sumI A.p0 - sumI (stA (evN l) (i + 1)).b.p0)) = a.e0 + (sumI A.p0 - sumI (stA (evN l) (i + 1)).b.p0) := wrap_id (by omega) (by omega)
  have y6 : IntKind.i64.wrap (a.g0 + 120) = a.g0 + 120 := wrap_id (by omega) (by omega)
  have y7 : IntKind.i64.wrap (a.g0 + 240) = a.g0 + 240 := wrap_id (by omega) (by omega)
  have y8 : IntKind.i64.wrap (a.g0 + 300) = a.g0 + 300 := wrap_id (by omega) (by omega)
  have d1 : decide (2 * (A.pl - (stA (evN l) i).b.pl) < sumI (stA (evN l) i).b.p0 - sumI A.p0) = false := decide_eq_false (by omega)
  have d4 : decide (sumI (stA (evN l) i).b.p0 < sumI A.p0) = false := decide_eq_false (by omega)
  have d5 : decide ((2 : Int) < (nS A.p0 : Int)) = false := decide_eq_false (by omega)
  have hl1 : (stA (evN l) i).b.p0.length ≤ 1000000 := by omega
  have hl2 : A.p0.length ≤ 1000000 := by omega
  have hl3 : (stA (evN l) (i + 1)).b.p0.length ≤ 1000000 := by omega
  have i02 : (0 ≤ ((0 : Nat) : Int) ∧ ((0 : Nat) : Int) < 2) := by omega
  have dt : decide (((0 : Nat) : Int) < 2) = true := by decide
  have d3 : decide (0 < sumI A.p0) = true → decide (sumI (stA (evN l) i).b.p0 - sumI A.p0 < (A.pl - (stA (evN l) i).b.pl)) = false := fun h => by
    rw [decide_eq_true_eq] at h
    exact decide_eq_false (by omega)
  have d6 : (l i 0 = 2 ∧ l i 2 ≠ 0) → decide (sumI A.p0 < sumI (stA (evN l) (i + 1)).b.p0) = false ∧ decide (120 < sumI A.p0 - sumI (stA (evN l) (i + 1)).b.p0) = false ∧ decide (sumM (stA (evN l) (i + 1)).b.p0 = sumM A.p0) = true := fun h => by
    obtain ⟨s1, s2, s3⟩ := ss.1 h
    exact ⟨decide_eq_false (by omega), decide_eq_false (by omega), decide_eq_true s3⟩
  clear w0 ss hn2 hbs has hqs
  simp only [dt, d1, d4, d5, y1, y2, y4, boC, rowP, acT, alive_eq, play_eq, at_eq, strengths_eq, same_eq, sumP_eq, servedR_eq, p5_16, p5_48, p5_58, boS, rowP, pl_pf, plR_plT, atR_agT, stR_stT, pl_zero, Try.f5, go_sem, ↓reduceIte, Nat.reduceAdd, Nat.reduceSub, Nat.reduceMul, Nat.reduceEqDiff, Nat.reduceLT, Nat.reduceLeDiff, Int.reduceToNat, Int.reduceLE, Int.reduceLT, Int.reduceEq, Int.reduceNeg, reduceCtorEq]
  refine ⟨i02, ⟨hl1, hpf.1⟩, i02, ⟨hl2, hpf.2.1⟩, i02, ⟨hl3, hpf.2.2⟩, spl_intro (fun kn => spl_no (d3 kn) ?_) (fun kn => ?_)⟩
  all_goals
    refine ⟨i02, hl2, i02, i02, ?_⟩
    obtain ⟨bx, kx⟩ : ∃ b, decide (l i 2 = ((0 : Nat) : Int)) = b := ⟨_, rfl⟩
    rcases kind5 (l i 0) with ⟨k2, k3, k4, k5⟩ | ⟨k2, k3, k4, k5⟩ | ⟨k2, k3, k4, k5⟩ | ⟨k2, k3, k4, k5⟩ | ⟨k2, k3, k4, k5⟩ <;> cases bx
    · obtain ⟨d7, d8, d9⟩ := d6 ⟨of_decide_eq_true k2, fun h => of_decide_eq_false kx h⟩
      simp only [hX5, kx, k2, k3, k4, k5, d7, d8, d9, y3, y5, y6, y7, y8, alive_eq, play_eq, at_eq, strengths_eq, same_eq, sumP_eq, servedR_eq, p5_16, p5_48, p5_58, boS, rowP, pl_pf, plR_plT, atR_agT, stR_stT, pl_zero, Try.f5, go_sem, ↓reduceIte, Nat.reduceAdd, Nat.reduceSub, Nat.reduceMul, Nat.reduceEqDiff, Nat.reduceLT, Nat.reduceLeDiff, Int.reduceToNat, Int.reduceLE, Int.reduceLT, Int.reduceEq, Int.reduceNeg, reduceCtorEq]
      repeat' apply And.intro
      all_goals first
        | omega
        | (refine ⟨⟨0 + 1, by omega⟩, by simp only []; omega, ?_⟩
           simp only [decide_eq_true_eq, decide_eq_false_iff_not] at k2 k3 k4 k5 kx
           refine sub_of ?_ ?_ (subV_rfl _) (hI ⟨0 + 1, by omega⟩).1 (hI ⟨0 + 1, by omega⟩).2.1 (hI ⟨0 + 1, by omega⟩).2.2 <;> simp only [hX5, boC, rowP, acT, go_sem, ↓reduceIte, Nat.reduceAdd, Nat.reduceSub, Nat.reduceMul, Nat.reduceEqDiff, Nat.reduceLT, Nat.reduceLeDiff, Int.reduceToNat, Int.reduceLE, Int.reduceLT, Int.reduceEq, Int.reduceNeg, reduceCtorEq] <;> (try simp) <;> (try exact fun j _ => Bd_nth (by simp [BdL, Bd]) j) <;> (try exact bd_setL (by simp [bdAs, BdL, Bd])) <;> (try exact nestF_bd _ _ _ _ _ _ _ _ _))
      all_goals first
        | rfl
        | (unfold dgF deF
           (repeat' split) <;> omega)
    · simp only [hX5, kx, k2, k3, k4, k5, y3, y5, y6, y7, y8, alive_eq, play_eq, at_eq, strengths_eq, same_eq, sumP_eq, servedR_eq, p5_16, p5_48, p5_58, boS, rowP, pl_pf, plR_plT, atR_agT, stR_stT, pl_zero, Try.f5, go_sem, ↓reduceIte, Nat.reduceAdd, Nat.reduceSub, Nat.reduceMul, Nat.reduceEqDiff, Nat.reduceLT, Nat.reduceLeDiff, Int.reduceToNat, Int.reduceLE, Int.reduceLT, Int.reduceEq, Int.reduceNeg, reduceCtorEq]
      repeat' apply And.intro
      all_goals first
        | omega
        | (refine ⟨⟨0 + 1, by omega⟩, by simp only []; omega, ?_⟩
           simp only [decide_eq_true_eq, decide_eq_false_iff_not] at k2 k3 k4 k5 kx
           refine sub_of ?_ ?_ (subV_rfl _) (hI ⟨0 + 1, by omega⟩).1 (hI ⟨0 + 1, by omega⟩).2.1 (hI ⟨0 + 1, by omega⟩).2.2 <;> simp only [hX5, boC, rowP, acT, go_sem, ↓reduceIte, Nat.reduceAdd, Nat.reduceSub, Nat.reduceMul, Nat.reduceEqDiff, Nat.reduceLT, Nat.reduceLeDiff, Int.reduceToNat, Int.reduceLE, Int.reduceLT, Int.reduceEq, Int.reduceNeg, reduceCtorEq] <;> (try simp) <;> (try exact fun j _ => Bd_nth (by simp [BdL, Bd]) j) <;> (try exact bd_setL (by simp [bdAs, BdL, Bd])) <;> (try exact nestF_bd _ _ _ _ _ _ _ _ _))
      all_goals first
        | rfl
        | (unfold dgF deF
           (repeat' split) <;> omega)
    · simp only [hX5, kx, k2, k3, k4, k5, y3, y5, y6, y7, y8, alive_eq, play_eq, at_eq, strengths_eq, same_eq, sumP_eq, servedR_eq, p5_16, p5_48, p5_58, boS, rowP, pl_pf, plR_plT, atR_agT, stR_stT, pl_zero, Try.f5, go_sem, ↓reduceIte, Nat.reduceAdd, Nat.reduceSub, Nat.reduceMul, Nat.reduceEqDiff, Nat.reduceLT, Nat.reduceLeDiff, Int.reduceToNat, Int.reduceLE, Int.reduceLT, Int.reduceEq, Int.reduceNeg, reduceCtorEq]
      repeat' apply And.intro
      all_goals first
        | omega
        | (refine ⟨⟨0 + 1, by omega⟩, by simp only []; omega, ?_⟩
           simp only [decide_eq_true_eq, decide_eq_false_iff_not] at k2 k3 k4 k5 kx
           refine sub_of ?_ ?_ (subV_rfl _) (hI ⟨0 + 1, by omega⟩).1 (hI ⟨0 + 1, by omega⟩).2.1 (hI ⟨0 + 1, by omega⟩).2.2 <;> simp only [hX5, boC, rowP, acT, go_sem, ↓reduceIte, Nat.reduceAdd, Nat.reduceSub, Nat.reduceMul, Nat.reduceEqDiff, Nat.reduceLT, Nat.reduceLeDiff, Int.reduceToNat, Int.reduceLE, Int.reduceLT, Int.reduceEq, Int.reduceNeg, reduceCtorEq] <;> (try simp) <;> (try exact fun j _ => Bd_nth (by simp [BdL, Bd]) j) <;> (try exact bd_setL (by simp [bdAs, BdL, Bd])) <;> (try exact nestF_bd _ _ _ _ _ _ _ _ _))
      all_goals first
        | rfl
        | (unfold dgF deF
           (repeat' split) <;> omega)
    · simp only [hX5, kx, k2, k3, k4, k5, y3, y5, y6, y7, y8, alive_eq, play_eq, at_eq, strengths_eq, same_eq, sumP_eq, servedR_eq, p5_16, p5_48, p5_58, boS, rowP, pl_pf, plR_plT, atR_agT, stR_stT, pl_zero, Try.f5, go_sem, ↓reduceIte, Nat.reduceAdd, Nat.reduceSub, Nat.reduceMul, Nat.reduceEqDiff, Nat.reduceLT, Nat.reduceLeDiff, Int.reduceToNat, Int.reduceLE, Int.reduceLT, Int.reduceEq, Int.reduceNeg, reduceCtorEq]
      repeat' apply And.intro
      all_goals first
        | omega
        | (refine ⟨⟨0 + 1, by omega⟩, by simp only []; omega, ?_⟩
           simp only [decide_eq_true_eq, decide_eq_false_iff_not] at k2 k3 k4 k5 kx
           refine sub_of ?_ ?_ (subV_rfl _) (hI ⟨0 + 1, by omega⟩).1 (hI ⟨0 + 1, by omega⟩).2.1 (hI ⟨0 + 1, by omega⟩).2.2 <;> simp only [hX5, boC, rowP, acT, go_sem, ↓reduceIte, Nat.reduceAdd, Nat.reduceSub, Nat.reduceMul, Nat.reduceEqDiff, Nat.reduceLT, Nat.reduceLeDiff, Int.reduceToNat, Int.reduceLE, Int.reduceLT, Int.reduceEq, Int.reduceNeg, reduceCtorEq] <;> (try simp) <;> (try exact fun j _ => Bd_nth (by simp [BdL, Bd]) j) <;> (try exact bd_setL (by simp [bdAs, BdL, Bd])) <;> (try exact nestF_bd _ _ _ _ _ _ _ _ _))
      all_goals first
        | rfl
        | (unfold dgF deF
           (repeat' split) <;> omega)
    · simp only [hX5, kx, k2, k3, k4, k5, y3, y5, y6, y7, y8, alive_eq, play_eq, at_eq, strengths_eq, same_eq, sumP_eq, servedR_eq, p5_16, p5_48, p5_58, boS, rowP, pl_pf, plR_plT, atR_agT, stR_stT, pl_zero, Try.f5, go_sem, ↓reduceIte, Nat.reduceAdd, Nat.reduceSub, Nat.reduceMul, Nat.reduceEqDiff, Nat.reduceLT, Nat.reduceLeDiff, Int.reduceToNat, Int.reduceLE, Int.reduceLT, Int.reduceEq, Int.reduceNeg, reduceCtorEq]
      repeat' apply And.intro
      all_goals first
        | omega
        | (refine ⟨⟨0 + 1, by omega⟩, by simp only []; omega, ?_⟩
           simp only [decide_eq_true_eq, decide_eq_false_iff_not] at k2 k3 k4 k5 kx
           refine sub_of ?_ ?_ (subV_rfl _) (hI ⟨0 + 1, by omega⟩).1 (hI ⟨0 + 1, by omega⟩).2.1 (hI ⟨0 + 1, by omega⟩).2.2 <;> simp only [hX5, boC, rowP, acT, go_sem, ↓reduceIte, Nat.reduceAdd, Nat.reduceSub, Nat.reduceMul, Nat.reduceEqDiff, Nat.reduceLT, Nat.reduceLeDiff, Int.reduceToNat, Int.reduceLE, Int.reduceLT, Int.reduceEq, Int.reduceNeg, reduceCtorEq] <;> (try simp) <;> (try exact fun j _ => Bd_nth (by simp [BdL, Bd]) j) <;> (try exact bd_setL (by simp [bdAs, BdL, Bd])) <;> (try exact nestF_bd _ _ _ _ _ _ _ _ _))
      all_goals first
        | rfl
        | (unfold dgF deF
           (repeat' split) <;> omega)
    · simp only [hX5, kx, k2, k3, k4, k5, y3, y5, y6, y7, y8, alive_eq, play_eq, at_eq, strengths_eq, same_eq, sumP_eq, servedR_eq, p5_16, p5_48, p5_58, boS, rowP, pl_pf, plR_plT, atR_agT, stR_stT, pl_zero, Try.f5, go_sem, ↓reduceIte, Nat.reduceAdd, Nat.reduceSub, Nat.reduceMul, Nat.reduceEqDiff, Nat.reduceLT, Nat.reduceLeDiff, Int.reduceToNat, Int.reduceLE, Int.reduceLT, Int.reduceEq, Int.reduceNeg, reduceCtorEq]
      repeat' apply And.intro
      all_goals first
        | omega
        | (refine ⟨⟨0 + 1, by omega⟩, by simp only []; omega, ?_⟩
           simp only [decide_eq_true_eq, decide_eq_false_iff_not] at k2 k3 k4 k5 kx
           refine sub_of ?_ ?_ (subV_rfl _) (hI ⟨0 + 1, by omega⟩).1 (hI ⟨0 + 1, by omega⟩).2.1 (hI ⟨0 + 1, by omega⟩).2.2 <;> simp only [hX5, boC, rowP, acT, go_sem, ↓reduceIte, Nat.reduceAdd, Nat.reduceSub, Nat.reduceMul, Nat.reduceEqDiff, Nat.reduceLT, Nat.reduceLeDiff, Int.reduceToNat, Int.reduceLE, Int.reduceLT, Int.reduceEq, Int.reduceNeg, reduceCtorEq] <;> (try simp) <;> (try exact fun j _ => Bd_nth (by simp [BdL, Bd]) j) <;> (try exact bd_setL (by simp [bdAs, BdL, Bd])) <;> (try exact nestF_bd _ _ _ _ _ _ _ _ _))
      all_goals first
        | rfl
        | (unfold dgF deF
           (repeat' split) <;> omega)
    · simp only [hX5, kx, k2, k3, k4, k5, y3, y5, y6, y7, y8, alive_eq, play_eq, at_eq, strengths_eq, same_eq, sumP_eq, servedR_eq, p5_16, p5_48, p5_58, boS, rowP, pl_pf, plR_plT, atR_agT, stR_stT, pl_zero, Try.f5, go_sem, ↓reduceIte, Nat.reduceAdd, Nat.reduceSub, Nat.reduceMul, Nat.reduceEqDiff, Nat.reduceLT, Nat.reduceLeDiff, Int.reduceToNat, Int.reduceLE, Int.reduceLT, Int.reduceEq, Int.reduceNeg, reduceCtorEq]
      repeat' apply And.intro
      all_goals first
        | omega
        | (refine ⟨⟨0 + 1, by omega⟩, by simp only []; omega, ?_⟩
           simp only [decide_eq_true_eq, decide_eq_false_iff_not] at k2 k3 k4 k5 kx
           refine sub_of ?_ ?_ (subV_rfl _) (hI ⟨0 + 1, by omega⟩).1 (hI ⟨0 + 1, by omega⟩).2.1 (hI ⟨0 + 1, by omega⟩).2.2 <;> simp only [hX5, boC, rowP, acT, go_sem, ↓reduceIte, Nat.reduceAdd, Nat.reduceSub, Nat.reduceMul, Nat.reduceEqDiff, Nat.reduceLT, Nat.reduceLeDiff, Int.reduceToNat, Int.reduceLE, Int.reduceLT, Int.reduceEq, Int.reduceNeg, reduceCtorEq] <;> (try simp) <;> (try exact fun j _ => Bd_nth (by simp [BdL, Bd]) j) <;> (try exact bd_setL (by simp [bdAs, BdL, Bd])) <;> (try exact nestF_bd _ _ _ _ _ _ _ _ _))
      all_goals first
        | rfl
        | (unfold dgF deF
           (repeat' split) <;> omega)
    · simp only [hX5, kx, k2, k3, k4, k5, y3, y5, y6, y7, y8, alive_eq, play_eq, at_eq, strengths_eq, same_eq, sumP_eq, servedR_eq, p5_16, p5_48, p5_58, boS, rowP, pl_pf, plR_plT, atR_agT, stR_stT, pl_zero, Try.f5, go_sem, ↓reduceIte, Nat.reduceAdd, Nat.reduceSub, Nat.reduceMul, Nat.reduceEqDiff, Nat.reduceLT, Nat.reduceLeDiff, Int.reduceToNat, Int.reduceLE, Int.reduceLT, Int.reduceEq, Int.reduceNeg, reduceCtorEq]
      repeat' apply And.intro
      all_goals first
        | omega
        | (refine ⟨⟨0 + 1, by omega⟩, by simp only []; omega, ?_⟩
           simp only [decide_eq_true_eq, decide_eq_false_iff_not] at k2 k3 k4 k5 kx
           refine sub_of ?_ ?_ (subV_rfl _) (hI ⟨0 + 1, by omega⟩).1 (hI ⟨0 + 1, by omega⟩).2.1 (hI ⟨0 + 1, by omega⟩).2.2 <;> simp only [hX5, boC, rowP, acT, go_sem, ↓reduceIte, Nat.reduceAdd, Nat.reduceSub, Nat.reduceMul, Nat.reduceEqDiff, Nat.reduceLT, Nat.reduceLeDiff, Int.reduceToNat, Int.reduceLE, Int.reduceLT, Int.reduceEq, Int.reduceNeg, reduceCtorEq] <;> (try simp) <;> (try exact fun j _ => Bd_nth (by simp [BdL, Bd]) j) <;> (try exact bd_setL (by simp [bdAs, BdL, Bd])) <;> (try exact nestF_bd _ _ _ _ _ _ _ _ _))
      all_goals first
        | rfl
        | (unfold dgF deF
           (repeat' split) <;> omega)
    · simp only [hX5, kx, k2, k3, k4, k5, y3, y5, y6, y7, y8, alive_eq, play_eq, at_eq, strengths_eq, same_eq, sumP_eq, servedR_eq, p5_16, p5_48, p5_58, boS, rowP, pl_pf, plR_plT, atR_agT, stR_stT, pl_zero, Try.f5, go_sem, ↓reduceIte, Nat.reduceAdd, Nat.reduceSub, Nat.reduceMul, Nat.reduceEqDiff, Nat.reduceLT, Nat.reduceLeDiff, Int.reduceToNat, Int.reduceLE, Int.reduceLT, Int.reduceEq, Int.reduceNeg, reduceCtorEq]
      repeat' apply And.intro
      all_goals first
        | omega
        | (refine ⟨⟨0 + 1, by omega⟩, by simp only []; omega, ?_⟩
           simp only [decide_eq_true_eq, decide_eq_false_iff_not] at k2 k3 k4 k5 kx
           refine sub_of ?_ ?_ (subV_rfl _) (hI ⟨0 + 1, by omega⟩).1 (hI ⟨0 + 1, by omega⟩).2.1 (hI ⟨0 + 1, by omega⟩).2.2 <;> simp only [hX5, boC, rowP, acT, go_sem, ↓reduceIte, Nat.reduceAdd, Nat.reduceSub, Nat.reduceMul, Nat.reduceEqDiff, Nat.reduceLT, Nat.reduceLeDiff, Int.reduceToNat, Int.reduceLE, Int.reduceLT, Int.reduceEq, Int.reduceNeg, reduceCtorEq] <;> (try simp) <;> (try exact fun j _ => Bd_nth (by simp [BdL, Bd]) j) <;> (try exact bd_setL (by simp [bdAs, BdL, Bd])) <;> (try exact nestF_bd _ _ _ _ _ _ _ _ _))
      all_goals first
        | rfl
        | (unfold dgF deF
           (repeat' split) <;> omega)
    · simp only [hX5, kx, k2, k3, k4, k5, y3, y5, y6, y7, y8, alive_eq, play_eq, at_eq, strengths_eq, same_eq, sumP_eq, servedR_eq, p5_16, p5_48, p5_58, boS, rowP, pl_pf, plR_plT, atR_agT, stR_stT, pl_zero, Try.f5, go_sem, ↓reduceIte, Nat.reduceAdd, Nat.reduceSub, Nat.reduceMul, Nat.reduceEqDiff, Nat.reduceLT, Nat.reduceLeDiff, Int.reduceToNat, Int.reduceLE, Int.reduceLT, Int.reduceEq, Int.reduceNeg, reduceCtorEq]
      repeat' apply And.intro
      all_goals first
        | omega
        | (refine ⟨⟨0 + 1, by omega⟩, by simp only []; omega, ?_⟩
           simp only [decide_eq_true_eq, decide_eq_false_iff_not] at k2 k3 k4 k5 kx
           refine sub_of ?_ ?_ (subV_rfl _) (hI ⟨0 + 1, by omega⟩).1 (hI ⟨0 + 1, by omega⟩).2.1 (hI ⟨0 + 1, by omega⟩).2.2 <;> simp only [hX5, boC, rowP, acT, go_sem, ↓reduceIte, Nat.reduceAdd, Nat.reduceSub, Nat.reduceMul, Nat.reduceEqDiff, Nat.reduceLT, Nat.reduceLeDiff, Int.reduceToNat, Int.reduceLE, Int.reduceLT, Int.reduceEq, Int.reduceNeg, reduceCtorEq] <;> (try simp) <;> (try exact fun j _ => Bd_nth (by simp [BdL, Bd]) j) <;> (try exact bd_setL (by simp [bdAs, BdL, Bd])) <;> (try exact nestF_bd _ _ _ _ _ _ _ _ _))
      all_goals first
        | rfl
        | (unfold dgF deF
           (repeat' split) <;> omega)
theorem clockSeconds_t1 : clockSeconds_pre.2.1 := by
  intro n
  unhygienic intros
  have hpf : (∀ j, j < (stA (evN l) i).b.p1.length → 0 ≤ pf (stA (evN l) i).b.p1 j 2 ∧ pf (stA (evN l) i).b.p1 j 2 ≤ 1000) ∧ (∀ j, j < A.p1.length → 0 ≤ pf A.p1 j 2 ∧ pf A.p1 j 2 ≤ 1000) ∧ (∀ j, j < (stA (evN l) (i + 1)).b.p1.length → 0 ≤ pf (stA (evN l) (i + 1)).b.p1 j 2 ∧ pf (stA (evN l) (i + 1)).b.p1 j 2 ≤ 1000) := ⟨hb1.2, ha1.2, hq1.2⟩
  obtain ⟨hb', _⟩ := hb1
  obtain ⟨ha', _⟩ := ha1
  obtain ⟨hq', _⟩ := hq1
  obtain ⟨c1, c2, c3, c4, c5, c6, c7, c8⟩ := ha
  have w0 := hS.w.s1
  have ss := hS.s1
  have hn2 := nS_2 A.p1
  have y1 : IntKind.i64.wrap (2 * (A.pl - (stA (evN l) i).b.pl)) = 2 * (A.pl - (stA (evN l) i).b.pl) := wrap_id (by omega) (by omega)
  have y2 : IntKind.i64.wrap (sumI (stA (evN l) i).b.p1 - sumI A.p1) = sumI (stA (evN l) i).b.p1 - sumI A.p1 := wrap_id (by omega) (by omega)
  have y3 : IntKind.i64.wrap (sumI A.p1 - sumI (stA (evN l) (i + 1)).b.p1) = sumI A.p1 - sumI (stA (evN l) (i + 1)).b.p1 := wrap_id (by omega) (by omega)
  have y4 : IntKind.i64.wrap (a.v1 + (sumI (stA (evN l) i).b.p1 - sumI A.p1)) = a.v1 + (sumI (stA (evN l) i).b.p1 - sumI A.p1) := wrap_id (by omega) (by omega)
  have y5 : IntKind.i64.wrap (a.e1 + (sumI A.p1 - sumI (stA (evN l) (i + 1)).b.p1)) = a.e1 + (sumI A.p1 - sumI (stA (evN l) (i + 1)).b.p1) := wrap_id (by omega) (by omega)
  have y6 : IntKind.i64.wrap (a.g1 + 120) = a.g1 + 120 := wrap_id (by omega) (by omega)
  have y7 : IntKind.i64.wrap (a.g1 + 240) = a.g1 + 240 := wrap_id (by omega) (by omega)
  have y8 : IntKind.i64.wrap (a.g1 + 300) = a.g1 + 300 := wrap_id (by omega) (by omega)
  have d1 : decide (2 * (A.pl - (stA (evN l) i).b.pl) < sumI (stA (evN l) i).b.p1 - sumI A.p1) = false := decide_eq_false (by omega)
  have d4 : decide (sumI (stA (evN l) i).b.p1 < sumI A.p1) = false := decide_eq_false (by omega)
  have d5 : decide ((2 : Int) < (nS A.p1 : Int)) = false := decide_eq_false (by omega)
  have hl1 : (stA (evN l) i).b.p1.length ≤ 1000000 := by omega
  have hl2 : A.p1.length ≤ 1000000 := by omega
  have hl3 : (stA (evN l) (i + 1)).b.p1.length ≤ 1000000 := by omega
  have i02 : (0 ≤ ((1 : Nat) : Int) ∧ ((1 : Nat) : Int) < 2) := by omega
  have dt : decide (((1 : Nat) : Int) < 2) = true := by decide
  have d3 : decide (0 < sumI A.p1) = true → decide (sumI (stA (evN l) i).b.p1 - sumI A.p1 < (A.pl - (stA (evN l) i).b.pl)) = false := fun h => by
    rw [decide_eq_true_eq] at h
    exact decide_eq_false (by omega)
  have d6 : (l i 0 = 2 ∧ l i 2 ≠ 1) → decide (sumI A.p1 < sumI (stA (evN l) (i + 1)).b.p1) = false ∧ decide (120 < sumI A.p1 - sumI (stA (evN l) (i + 1)).b.p1) = false ∧ decide (sumM (stA (evN l) (i + 1)).b.p1 = sumM A.p1) = true := fun h => by
    obtain ⟨s1, s2, s3⟩ := ss.1 h
    exact ⟨decide_eq_false (by omega), decide_eq_false (by omega), decide_eq_true s3⟩
  clear w0 ss hn2 hbs has hqs
  simp only [dt, d1, d4, d5, y1, y2, y4, boC, rowP, acT, alive_eq, play_eq, at_eq, strengths_eq, same_eq, sumP_eq, servedR_eq, p5_16, p5_48, p5_58, boS, rowP, pl_pf, plR_plT, atR_agT, stR_stT, pl_zero, Try.f5, go_sem, ↓reduceIte, Nat.reduceAdd, Nat.reduceSub, Nat.reduceMul, Nat.reduceEqDiff, Nat.reduceLT, Nat.reduceLeDiff, Int.reduceToNat, Int.reduceLE, Int.reduceLT, Int.reduceEq, Int.reduceNeg, reduceCtorEq]
  refine ⟨i02, ⟨hl1, hpf.1⟩, i02, ⟨hl2, hpf.2.1⟩, i02, ⟨hl3, hpf.2.2⟩, spl_intro (fun kn => spl_no (d3 kn) ?_) (fun kn => ?_)⟩
  all_goals
    refine ⟨i02, hl2, i02, i02, ?_⟩
    obtain ⟨bx, kx⟩ : ∃ b, decide (l i 2 = ((1 : Nat) : Int)) = b := ⟨_, rfl⟩
    rcases kind5 (l i 0) with ⟨k2, k3, k4, k5⟩ | ⟨k2, k3, k4, k5⟩ | ⟨k2, k3, k4, k5⟩ | ⟨k2, k3, k4, k5⟩ | ⟨k2, k3, k4, k5⟩ <;> cases bx
    · obtain ⟨d7, d8, d9⟩ := d6 ⟨of_decide_eq_true k2, fun h => of_decide_eq_false kx h⟩
      simp only [hX5, kx, k2, k3, k4, k5, d7, d8, d9, y3, y5, y6, y7, y8, alive_eq, play_eq, at_eq, strengths_eq, same_eq, sumP_eq, servedR_eq, p5_16, p5_48, p5_58, boS, rowP, pl_pf, plR_plT, atR_agT, stR_stT, pl_zero, Try.f5, go_sem, ↓reduceIte, Nat.reduceAdd, Nat.reduceSub, Nat.reduceMul, Nat.reduceEqDiff, Nat.reduceLT, Nat.reduceLeDiff, Int.reduceToNat, Int.reduceLE, Int.reduceLT, Int.reduceEq, Int.reduceNeg, reduceCtorEq]
      repeat' apply And.intro
      all_goals first
        | omega
        | (refine ⟨⟨1 + 1, by omega⟩, by simp only []; omega, ?_⟩
           simp only [decide_eq_true_eq, decide_eq_false_iff_not] at k2 k3 k4 k5 kx
           refine sub_of ?_ ?_ (subV_rfl _) (hI ⟨1 + 1, by omega⟩).1 (hI ⟨1 + 1, by omega⟩).2.1 (hI ⟨1 + 1, by omega⟩).2.2 <;> simp only [hX5, boC, rowP, acT, go_sem, ↓reduceIte, Nat.reduceAdd, Nat.reduceSub, Nat.reduceMul, Nat.reduceEqDiff, Nat.reduceLT, Nat.reduceLeDiff, Int.reduceToNat, Int.reduceLE, Int.reduceLT, Int.reduceEq, Int.reduceNeg, reduceCtorEq] <;> (try simp) <;> (try exact fun j _ => Bd_nth (by simp [BdL, Bd]) j) <;> (try exact bd_setL (by simp [bdAs, BdL, Bd])) <;> (try exact nestF_bd _ _ _ _ _ _ _ _ _))
      all_goals first
        | rfl
        | (unfold dgF deF
           (repeat' split) <;> omega)
    · simp only [hX5, kx, k2, k3, k4, k5, y3, y5, y6, y7, y8, alive_eq, play_eq, at_eq, strengths_eq, same_eq, sumP_eq, servedR_eq, p5_16, p5_48, p5_58, boS, rowP, pl_pf, plR_plT, atR_agT, stR_stT, pl_zero, Try.f5, go_sem, ↓reduceIte, Nat.reduceAdd, Nat.reduceSub, Nat.reduceMul, Nat.reduceEqDiff, Nat.reduceLT, Nat.reduceLeDiff, Int.reduceToNat, Int.reduceLE, Int.reduceLT, Int.reduceEq, Int.reduceNeg, reduceCtorEq]
      repeat' apply And.intro
      all_goals first
        | omega
        | (refine ⟨⟨1 + 1, by omega⟩, by simp only []; omega, ?_⟩
           simp only [decide_eq_true_eq, decide_eq_false_iff_not] at k2 k3 k4 k5 kx
           refine sub_of ?_ ?_ (subV_rfl _) (hI ⟨1 + 1, by omega⟩).1 (hI ⟨1 + 1, by omega⟩).2.1 (hI ⟨1 + 1, by omega⟩).2.2 <;> simp only [hX5, boC, rowP, acT, go_sem, ↓reduceIte, Nat.reduceAdd, Nat.reduceSub, Nat.reduceMul, Nat.reduceEqDiff, Nat.reduceLT, Nat.reduceLeDiff, Int.reduceToNat, Int.reduceLE, Int.reduceLT, Int.reduceEq, Int.reduceNeg, reduceCtorEq] <;> (try simp) <;> (try exact fun j _ => Bd_nth (by simp [BdL, Bd]) j) <;> (try exact bd_setL (by simp [bdAs, BdL, Bd])) <;> (try exact nestF_bd _ _ _ _ _ _ _ _ _))
      all_goals first
        | rfl
        | (unfold dgF deF
           (repeat' split) <;> omega)
    · simp only [hX5, kx, k2, k3, k4, k5, y3, y5, y6, y7, y8, alive_eq, play_eq, at_eq, strengths_eq, same_eq, sumP_eq, servedR_eq, p5_16, p5_48, p5_58, boS, rowP, pl_pf, plR_plT, atR_agT, stR_stT, pl_zero, Try.f5, go_sem, ↓reduceIte, Nat.reduceAdd, Nat.reduceSub, Nat.reduceMul, Nat.reduceEqDiff, Nat.reduceLT, Nat.reduceLeDiff, Int.reduceToNat, Int.reduceLE, Int.reduceLT, Int.reduceEq, Int.reduceNeg, reduceCtorEq]
      repeat' apply And.intro
      all_goals first
        | omega
        | (refine ⟨⟨1 + 1, by omega⟩, by simp only []; omega, ?_⟩
           simp only [decide_eq_true_eq, decide_eq_false_iff_not] at k2 k3 k4 k5 kx
           refine sub_of ?_ ?_ (subV_rfl _) (hI ⟨1 + 1, by omega⟩).1 (hI ⟨1 + 1, by omega⟩).2.1 (hI ⟨1 + 1, by omega⟩).2.2 <;> simp only [hX5, boC, rowP, acT, go_sem, ↓reduceIte, Nat.reduceAdd, Nat.reduceSub, Nat.reduceMul, Nat.reduceEqDiff, Nat.reduceLT, Nat.reduceLeDiff, Int.reduceToNat, Int.reduceLE, Int.reduceLT, Int.reduceEq, Int.reduceNeg, reduceCtorEq] <;> (try simp) <;> (try exact fun j _ => Bd_nth (by simp [BdL, Bd]) j) <;> (try exact bd_setL (by simp [bdAs, BdL, Bd])) <;> (try exact nestF_bd _ _ _ _ _ _ _ _ _))
      all_goals first
        | rfl
        | (unfold dgF deF
           (repeat' split) <;> omega)
    · simp only [hX5, kx, k2, k3, k4, k5, y3, y5, y6, y7, y8, alive_eq, play_eq, at_eq, strengths_eq, same_eq, sumP_eq, servedR_eq, p5_16, p5_48, p5_58, boS, rowP, pl_pf, plR_plT, atR_agT, stR_stT, pl_zero, Try.f5, go_sem, ↓reduceIte, Nat.reduceAdd, Nat.reduceSub, Nat.reduceMul, Nat.reduceEqDiff, Nat.reduceLT, Nat.reduceLeDiff, Int.reduceToNat, Int.reduceLE, Int.reduceLT, Int.reduceEq, Int.reduceNeg, reduceCtorEq]
      repeat' apply And.intro
      all_goals first
        | omega
        | (refine ⟨⟨1 + 1, by omega⟩, by simp only []; omega, ?_⟩
           simp only [decide_eq_true_eq, decide_eq_false_iff_not] at k2 k3 k4 k5 kx
           refine sub_of ?_ ?_ (subV_rfl _) (hI ⟨1 + 1, by omega⟩).1 (hI ⟨1 + 1, by omega⟩).2.1 (hI ⟨1 + 1, by omega⟩).2.2 <;> simp only [hX5, boC, rowP, acT, go_sem, ↓reduceIte, Nat.reduceAdd, Nat.reduceSub, Nat.reduceMul, Nat.reduceEqDiff, Nat.reduceLT, Nat.reduceLeDiff, Int.reduceToNat, Int.reduceLE, Int.reduceLT, Int.reduceEq, Int.reduceNeg, reduceCtorEq] <;> (try simp) <;> (try exact fun j _ => Bd_nth (by simp [BdL, Bd]) j) <;> (try exact bd_setL (by simp [bdAs, BdL, Bd])) <;> (try exact nestF_bd _ _ _ _ _ _ _ _ _))
      all_goals first
        | rfl
        | (unfold dgF deF
           (repeat' split) <;> omega)
    · simp only [hX5, kx, k2, k3, k4, k5, y3, y5, y6, y7, y8, alive_eq, play_eq, at_eq, strengths_eq, same_eq, sumP_eq, servedR_eq, p5_16, p5_48, p5_58, boS, rowP, pl_pf, plR_plT, atR_agT, stR_stT, pl_zero, Try.f5, go_sem, ↓reduceIte, Nat.reduceAdd, Nat.reduceSub, Nat.reduceMul, Nat.reduceEqDiff, Nat.reduceLT, Nat.reduceLeDiff, Int.reduceToNat, Int.reduceLE, Int.reduceLT, Int.reduceEq, Int.reduceNeg, reduceCtorEq]
      repeat' apply And.intro
      all_goals first
        | omega
        | (refine ⟨⟨1 + 1, by omega⟩, by simp only []; omega, ?_⟩
           simp only [decide_eq_true_eq, decide_eq_false_iff_not] at k2 k3 k4 k5 kx
           refine sub_of ?_ ?_ (subV_rfl _) (hI ⟨1 + 1, by omega⟩).1 (hI ⟨1 + 1, by omega⟩).2.1 (hI ⟨1 + 1, by omega⟩).2.2 <;> simp only [hX5, boC, rowP, acT, go_sem, ↓reduceIte, Nat.reduceAdd, Nat.reduceSub, Nat.reduceMul, Nat.reduceEqDiff, Nat.reduceLT, Nat.reduceLeDiff, Int.reduceToNat, Int.reduceLE, Int.reduceLT, Int.reduceEq, Int.reduceNeg, reduceCtorEq] <;> (try simp) <;> (try exact fun j _ => Bd_nth (by simp [BdL, Bd]) j) <;> (try exact bd_setL (by simp [bdAs, BdL, Bd])) <;> (try exact nestF_bd _ _ _ _ _ _ _ _ _))
      all_goals first
        | rfl
        | (unfold dgF deF
           (repeat' split) <;> omega)
    · simp only [hX5, kx, k2, k3, k4, k5, y3, y5, y6, y7, y8, alive_eq, play_eq, at_eq, strengths_eq, same_eq, sumP_eq, servedR_eq, p5_16, p5_48, p5_58, boS, rowP, pl_pf, plR_plT, atR_agT, stR_stT, pl_zero, Try.f5, go_sem, ↓reduceIte, Nat.reduceAdd, Nat.reduceSub, Nat.reduceMul, Nat.reduceEqDiff, Nat.reduceLT, Nat.reduceLeDiff, Int.reduceToNat, Int.reduceLE, Int.reduceLT, Int.reduceEq, Int.reduceNeg, reduceCtorEq]
      repeat' apply And.intro
      all_goals first
        | omega
        | (refine ⟨⟨1 + 1, by omega⟩, by simp only []; omega, ?_⟩
           simp only [decide_eq_true_eq, decide_eq_false_iff_not] at k2 k3 k4 k5 kx
           refine sub_of ?_ ?_ (subV_rfl _) (hI ⟨1 + 1, by omega⟩).1 (hI ⟨1 + 1, by omega⟩).2.1 (hI ⟨1 + 1, by omega⟩).2.2 <;> simp only [hX5, boC, rowP, acT, go_sem, ↓reduceIte, Nat.reduceAdd, Nat.reduceSub, Nat.reduceMul, Nat.reduceEqDiff, Nat.reduceLT, Nat.reduceLeDiff, Int.reduceToNat, Int.reduceLE, Int.reduceLT, Int.reduceEq, Int.reduceNeg, reduceCtorEq] <;> (try simp) <;> (try exact fun j _ => Bd_nth (by simp [BdL, Bd]) j) <;> (try exact bd_setL (by simp [bdAs, BdL, Bd])) <;> (try exact nestF_bd _ _ _ _ _ _ _ _ _))
      all_goals first
        | rfl
        | (unfold dgF deF
           (repeat' split) <;> omega)
    · simp only [hX5, kx, k2, k3, k4, k5, y3, y5, y6, y7, y8, alive_eq, play_eq, at_eq, strengths_eq, same_eq, sumP_eq, servedR_eq, p5_16, p5_48, p5_58, boS, rowP, pl_pf, plR_plT, atR_agT, stR_stT, pl_zero, Try.f5, go_sem, ↓reduceIte, Nat.reduceAdd, Nat.reduceSub, Nat.reduceMul, Nat.reduceEqDiff, Nat.reduceLT, Nat.reduceLeDiff, Int.reduceToNat, Int.reduceLE, Int.reduceLT, Int.reduceEq, Int.reduceNeg, reduceCtorEq]
      repeat' apply And.intro
      all_goals first
        | omega
        | (refine ⟨⟨1 + 1, by omega⟩, by simp only []; omega, ?_⟩
           simp only [decide_eq_true_eq, decide_eq_false_iff_not] at k2 k3 k4 k5 kx
           refine sub_of ?_ ?_ (subV_rfl _) (hI ⟨1 + 1, by omega⟩).1 (hI ⟨1 + 1, by omega⟩).2.1 (hI ⟨1 + 1, by omega⟩).2.2 <;> simp only [hX5, boC, rowP, acT, go_sem, ↓reduceIte, Nat.reduceAdd, Nat.reduceSub, Nat.reduceMul, Nat.reduceEqDiff, Nat.reduceLT, Nat.reduceLeDiff, Int.reduceToNat, Int.reduceLE, Int.reduceLT, Int.reduceEq, Int.reduceNeg, reduceCtorEq] <;> (try simp) <;> (try exact fun j _ => Bd_nth (by simp [BdL, Bd]) j) <;> (try exact bd_setL (by simp [bdAs, BdL, Bd])) <;> (try exact nestF_bd _ _ _ _ _ _ _ _ _))
      all_goals first
        | rfl
        | (unfold dgF deF
           (repeat' split) <;> omega)
    · simp only [hX5, kx, k2, k3, k4, k5, y3, y5, y6, y7, y8, alive_eq, play_eq, at_eq, strengths_eq, same_eq, sumP_eq, servedR_eq, p5_16, p5_48, p5_58, boS, rowP, pl_pf, plR_plT, atR_agT, stR_stT, pl_zero, Try.f5, go_sem, ↓reduceIte, Nat.reduceAdd, Nat.reduceSub, Nat.reduceMul, Nat.reduceEqDiff, Nat.reduceLT, Nat.reduceLeDiff, Int.reduceToNat, Int.reduceLE, Int.reduceLT, Int.reduceEq, Int.reduceNeg, reduceCtorEq]
      repeat' apply And.intro
      all_goals first
        | omega
        | (refine ⟨⟨1 + 1, by omega⟩, by simp only []; omega, ?_⟩
           simp only [decide_eq_true_eq, decide_eq_false_iff_not] at k2 k3 k4 k5 kx
           refine sub_of ?_ ?_ (subV_rfl _) (hI ⟨1 + 1, by omega⟩).1 (hI ⟨1 + 1, by omega⟩).2.1 (hI ⟨1 + 1, by omega⟩).2.2 <;> simp only [hX5, boC, rowP, acT, go_sem, ↓reduceIte, Nat.reduceAdd, Nat.reduceSub, Nat.reduceMul, Nat.reduceEqDiff, Nat.reduceLT, Nat.reduceLeDiff, Int.reduceToNat, Int.reduceLE, Int.reduceLT, Int.reduceEq, Int.reduceNeg, reduceCtorEq] <;> (try simp) <;> (try exact fun j _ => Bd_nth (by simp [BdL, Bd]) j) <;> (try exact bd_setL (by simp [bdAs, BdL, Bd])) <;> (try exact nestF_bd _ _ _ _ _ _ _ _ _))
      all_goals first
        | rfl
        | (unfold dgF deF
           (repeat' split) <;> omega)
    · simp only [hX5, kx, k2, k3, k4, k5, y3, y5, y6, y7, y8, alive_eq, play_eq, at_eq, strengths_eq, same_eq, sumP_eq, servedR_eq, p5_16, p5_48, p5_58, boS, rowP, pl_pf, plR_plT, atR_agT, stR_stT, pl_zero, Try.f5, go_sem, ↓reduceIte, Nat.reduceAdd, Nat.reduceSub, Nat.reduceMul, Nat.reduceEqDiff, Nat.reduceLT, Nat.reduceLeDiff, Int.reduceToNat, Int.reduceLE, Int.reduceLT, Int.reduceEq, Int.reduceNeg, reduceCtorEq]
      repeat' apply And.intro
      all_goals first
        | omega
        | (refine ⟨⟨1 + 1, by omega⟩, by simp only []; omega, ?_⟩
           simp only [decide_eq_true_eq, decide_eq_false_iff_not] at k2 k3 k4 k5 kx
           refine sub_of ?_ ?_ (subV_rfl _) (hI ⟨1 + 1, by omega⟩).1 (hI ⟨1 + 1, by omega⟩).2.1 (hI ⟨1 + 1, by omega⟩).2.2 <;> simp only [hX5, boC, rowP, acT, go_sem, ↓reduceIte, Nat.reduceAdd, Nat.reduceSub, Nat.reduceMul, Nat.reduceEqDiff, Nat.reduceLT, Nat.reduceLeDiff, Int.reduceToNat, Int.reduceLE, Int.reduceLT, Int.reduceEq, Int.reduceNeg, reduceCtorEq] <;> (try simp) <;> (try exact fun j _ => Bd_nth (by simp [BdL, Bd]) j) <;> (try exact bd_setL (by simp [bdAs, BdL, Bd])) <;> (try exact nestF_bd _ _ _ _ _ _ _ _ _))
      all_goals first
        | rfl
        | (unfold dgF deF
           (repeat' split) <;> omega)
    · simp only [hX5, kx, k2, k3, k4, k5, y3, y5, y6, y7, y8, alive_eq, play_eq, at_eq, strengths_eq, same_eq, sumP_eq, servedR_eq, p5_16, p5_48, p5_58, boS, rowP, pl_pf, plR_plT, atR_agT, stR_stT, pl_zero, Try.f5, go_sem, ↓reduceIte, Nat.reduceAdd, Nat.reduceSub, Nat.reduceMul, Nat.reduceEqDiff, Nat.reduceLT, Nat.reduceLeDiff, Int.reduceToNat, Int.reduceLE, Int.reduceLT, Int.reduceEq, Int.reduceNeg, reduceCtorEq]
      repeat' apply And.intro
      all_goals first
        | omega
        | (refine ⟨⟨1 + 1, by omega⟩, by simp only []; omega, ?_⟩
           simp only [decide_eq_true_eq, decide_eq_false_iff_not] at k2 k3 k4 k5 kx
           refine sub_of ?_ ?_ (subV_rfl _) (hI ⟨1 + 1, by omega⟩).1 (hI ⟨1 + 1, by omega⟩).2.1 (hI ⟨1 + 1, by omega⟩).2.2 <;> simp only [hX5, boC, rowP, acT, go_sem, ↓reduceIte, Nat.reduceAdd, Nat.reduceSub, Nat.reduceMul, Nat.reduceEqDiff, Nat.reduceLT, Nat.reduceLeDiff, Int.reduceToNat, Int.reduceLE, Int.reduceLT, Int.reduceEq, Int.reduceNeg, reduceCtorEq] <;> (try simp) <;> (try exact fun j _ => Bd_nth (by simp [BdL, Bd]) j) <;> (try exact bd_setL (by simp [bdAs, BdL, Bd])) <;> (try exact nestF_bd _ _ _ _ _ _ _ _ _))
      all_goals first
        | rfl
        | (unfold dgF deF
           (repeat' split) <;> omega)
theorem clockSeconds_base : Base Try.prog 5 clockSecondsBase := clockSeconds_pre.2.2 ⟨clockSeconds_t0⟩ ⟨clockSeconds_t1⟩
end Go.Eng
end

/-
  ClockSeconds: for every input the law returns true, and each argument reads afterwards as it read before. No condition.
-/
section
namespace Go.Proofs.Ytjkbmnhpbncdcaa.clockSeconds
open Go.ChangeShapes Go.WideShapes Go.ChangeAt Go.RowKit Go.Eng
set_option linter.unusedVariables false
theorem own : ownKnob Try.prog.godebug = none := by kernel_rfl
theorem laid : laidOutB Try.prog = true := by kernel_rfl
set_option maxRecDepth 100000 in
theorem lifted (os : Os) (started : os.Started) (H : Type) (enc : TypeId × Value → H) :
    ReturnsInHanded {} Try.checked os 5 .any (Rows.clockSecondsSpec.pre6 enc Try.prog Try.f5 Rows.clockSecondsRow.domain false) (Rows.clockSecondsSpec.post enc Try.prog Try.f5 false true false false) := by
  refine returnsInHanded_of_change (C := Try.checked) own started (by kernel_rfl) Try.func5
    (ChangeSpec.witness6 (enc := enc) (C := Try.checked) false ⟨#[], #[.slice none 0 0, .int .i64 0], []⟩ 8 (by kernel_rfl) (by kernel_rfl) (by kernel_rfl) (by kernel_rfl)) ?_
  intro W base args ds gs before hval0 hW hcnd _
  have hval : ∀ (j : Nat) t v, Try.f5.params[j]? = some t → args[j]? = some v → Value.okWide Try.prog W .any base t v := hval0
  have hW' := hW
  obtain ⟨p, q, hA0, hV, rfl, hfz, hnd⟩ := hW
  have hA : DataW.TrodAll enc Try.prog W 0 (fun _ => true) true Try.f5.params.toList args.toList ds p := hA0
  rw [Try.params5] at hA hval
  obtain ⟨v0, vs0, d0, ds0, p0, q0, hargs, rfl, rfl, h0, r0⟩ := trodAll_cons hA
  obtain ⟨v1, vs1, d1, ds1, p1, q1, rfl, rfl, rfl, h1, r1⟩ := trodAll_cons r0
  obtain ⟨rfl, rfl, rfl⟩ := trodAll_nil r1
  obtain rfl : args = #[v0, v1] := by cases args; simp_all
  obtain ⟨rfl, rfl⟩ := trodVars_none hV
  obtain ⟨n0, f0, e0, m0, t0⟩ := arg_row (s := [.int .i64, .int .i64, .int .i64, .int .i64]) Try.underlying22 (by kernel_rfl) (hval 0 22 v0 rfl rfl) h0
  obtain ⟨i0, b0⟩ := intK_of_typ (k := .i64) (c := 4) rfl t0
  obtain ⟨x1, rfl, rfl, rfl, w1⟩ := open_int Try.underlying3 (hval 1 3 v1 rfl rfl) h1
  have hd : DenL Env.emp W [.row n0 4 f0, .int .i64 x1] [v0, .int .i64 x1] := ⟨e0, .int _ _, trivial⟩
  refine (law_calls clockSeconds_base (args := [.row n0 4 f0, .int .i64 x1]) rfl ⟨rfl, fun i j hi hj => i0 i j hi hj⟩ (denA_of hd)).mono fun e W' ⟨he, hb⟩ => ?_
  subst he
  exact ⟨_, rfl, law_end laid rfl Try.underlying4 (by kernel_rfl) rfl hW' rfl hb⟩
theorem over : Rows.clockSecondsRow.holds Try.pinned (OpenSpec.ofChange Rows.clockSecondsSpec) :=
  OpenClaim.holds_of_wide 5 Try.f5 rfl rfl rfl rfl rfl rfl rfl ⟨rfl, rfl, rfl, rfl, rfl⟩ rfl rfl rfl rfl rfl (by kernel_rfl) Try.func5 (by kernel_rfl)
    (of_decide_eq_true (by kernel_rfl)) (by unfold Func.isWrapper; first | (rw [if_pos (by decide +kernel)]; kernel_rfl) | (rw [if_neg (by decide +kernel)]; exact ⟨rfl, rfl⟩))
    (fun os started H enc _ => lifted os started H enc)
end Go.Proofs.Ytjkbmnhpbncdcaa.clockSeconds
namespace Go.Proofs.Ytjkbmnhpbncdcaa
/-- The given statement. -/
theorem clockSeconds_holds : Rows.ClockSecondsSaid := clockSeconds.over
#print axioms clockSeconds_holds
end Go.Proofs.Ytjkbmnhpbncdcaa
end
