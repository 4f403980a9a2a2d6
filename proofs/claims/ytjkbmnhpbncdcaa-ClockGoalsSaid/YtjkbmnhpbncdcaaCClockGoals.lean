/-
  ClockGoals: for every input the law returns true, and each argument reads afterwards as it read before. No condition.
-/
import Derived.Test.YtjkbmnhpbncdcaaRows
import Derived.WalkKit
import Derived.Test.YtjkbmnhpbncdcaaK4
set_option linter.unusedSimpArgs false
set_option linter.unusedVariables false
/- clock: ClockPlays. -/
section
namespace Go.Eng
open Go Go.RowKit Go.Proofs
set_option maxRecDepth 100000
set_option maxHeartbeats 4000000
attribute [local irreducible] OwnT DefS
/-- No list is long. -/
def Bo.Sm (b : Bo) : Prop := b.p0.length ≤ 600 ∧ b.p1.length ≤ 600 ∧ b.m0.length ≤ 600 ∧ b.m1.length ≤ 600
theorem z_sm : Bo.z.Sm := ⟨by decide, by decide, by decide, by decide⟩
theorem cnt_sm {b : Bo} {n : Nat} (h : b.Cnt n) (hn : n ≤ 300) : b.Sm := ⟨by have := h.p0; omega, by have := h.p1; omega, by have := h.m0; omega, by have := h.m1; omega⟩
theorem plR_sm (n : Nat) (l : Nat → Nat → Int) : (plR n l).1.Sm := by
  unfold plR
  split
  · exact z_sm
  · split
    · exact z_sm
    · exact cnt_sm (playP_ok (ev := evN l) (to := 1048576) (by omega) n 0 G0 G0_ok G0_cnt (by omega)).2 (by omega)
theorem plT_sm (n : Nat) (l : Nat → Nat → Int) : (plT n l).1.Sm := by rw [← plR_plT]; exact plR_sm n l
theorem atR_sm (n : Nat) (l : Nat → Nat → Int) (to : Int) : (atR n l to).1.Sm := by
  unfold atR
  rw [plR_plT]
  split
  · exact z_sm
  · rename_i h
    split
    · exact z_sm
    · rename_i h2
      have hto := in3_iff.1 (show in3 to 0 1048576 = true by simpa using h2)
      have hn := (plT_len (by simpa using h)).1
      exact cnt_sm (passP_cnt _ _ (playP_ok (ev := evN l) (to := to) hto n 0 G0 G0_ok G0_cnt (by omega)).2) (by omega)
theorem agT_sm (n : Nat) (l : Nat → Nat → Int) (to : Int) : (agT n l to).1.b.Sm := by
  have := atR_sm n l to
  rw [atR_agT] at this
  exact this
theorem wiT_sm (n : Nat) (l : Nat → Nat → Int) (q : Int) : (wiT n l q).1.Sm := by
  unfold wiT
  repeat' split
  all_goals first | exact z_sm | exact plT_sm _ _
def clockPlaysBase : BaseF := fun args => match args with
  | [.row n sz_l f_l, .int .i64 second, .int .i64 index] => some ((sz_l = 4 ∧ IntR n 4 f_l), .bool true)
  | _ => none
theorem clockPlays_eq (n : Nat) (sz_l : Nat) (f_l : Nat → Nat → SV) (second : Int) (index : Int) : clockPlaysBase [.row n sz_l f_l, .int .i64 second, .int .i64 index] = some ((sz_l = 4 ∧ IntR n 4 f_l), .bool true) := rfl
theorem clockPlays_base : Base Try.prog 7 clockPlaysBase := by
  intro args p v hq hp
  unfold clockPlaysBase at hq
  split at hq
  rotate_left
  · cases hq
  rename_i n sz_l f_l second index
  cases hq
  obtain ⟨rfl, i_l⟩ := hp
  refine base_of (C := cxn [] [(23, playTBase), (24, atTBase), (25, withoutBase), (26, withTBase)] [] [(11, aliveBase), (12, playBase), (14, atBase), (20, sameBase)] [] none) (cxn_ok ⟨playT_base, atT_base, without_base, withT_base, trivial⟩ trivial ⟨alive_base, play_base, at_base, same_base, trivial⟩) rfl (g := 7) (fn := Try.f7)
    (args' := [.row n 4 (rowF .i64 (ivf f_l)), .int .i64 second, .int .i64 index]) (fn_7) rfl 1000 (by
    simp only [BdL, Bd, and_self, and_true, true_and]
    exact (fun i j hi hj => by rw [i_l i j hi hj]; trivial)) ⟨SameD.int i_l, SameD.rfl' _, SameD.rfl' _, trivial⟩ ?_
  generalize ivf f_l = l
  simp only [rowF_eq]
  simp only [alive_eq, play_eq, at_eq, same_eq, playT_eq, atT_eq, without_eq, withT_eq, Try.f15, boS, rowP, pl_pf, plR_plT, atR_agT, wiR_wiT, Try.f7, go_sem, ↓reduceIte, Nat.reduceAdd, Nat.reduceSub, Nat.reduceMul, Nat.reduceEqDiff, Nat.reduceLT, Nat.reduceLeDiff, Int.reduceToNat, Int.reduceLE, Int.reduceLT, Int.reduceEq, Int.reduceNeg, reduceCtorEq]
  have h1 := plT_sm n l
  have h2 := agT_sm n l second
  have h3 := wiT_sm n l index
  unfold Bo.Sm at h1 h2 h3
  repeat' first | refine spl_intro (fun _ => ?_) (fun _ => ?_) | apply And.intro
  all_goals first | trivial | omega | skip
  all_goals (simp only [decide_eq_true_eq, decide_eq_false_iff_not] at *; omega)
end Go.Eng
end

/- clock: event by event (plain). -/
section
namespace Go.Eng
open Go Go.RowKit Go.Proofs
set_option maxRecDepth 100000
set_option maxHeartbeats 4000000
attribute [local irreducible] OwnT DefS
/-- One more event. -/
def oneT (ev : Nat → Ev) (i : Nat) (s : Ga) : Ga × Nat × Int :=
  if evOk (ev i) = false then (s, i, 1) else if i ≠ 0 ∧ (ev i).s < (ev (i - 1)).s then (s, i, 7) else
    if ((passTF s (ev i).s).b.deed (ev i)).2 ≠ 0 then (s, i, ((passTF s (ev i).s).b.deed (ev i)).2)
    else (⟨((passTF s (ev i).s).b.deed (ev i)).1, (ev i).s, (passTF s (ev i).s).out⟩, i + 1, 0)
theorem playT_one (ev : Nat → Ev) (k i : Nat) (s : Ga) : playT ev 1048576 (k + 1) i s = if (oneT ev i s).2.2 = 0 then playT ev 1048576 k (i + 1) (oneT ev i s).1 else oneT ev i s := by
  unfold oneT
  conv => lhs; unfold playT
  by_cases h1 : evOk (ev i) = false
  · rw [if_pos h1, if_pos h1, if_neg (by simp)]
  have he := evOk_iff.1 (by simpa using h1)
  rw [if_neg h1, if_neg h1]
  by_cases h2 : i ≠ 0 ∧ (ev i).s < (ev (i - 1)).s
  · rw [if_pos h2, if_pos h2, if_neg (by simp)]
  rw [if_neg h2, if_neg h2, if_neg (show ¬ (1048576 : Int) < (ev i).s by omega)]
  by_cases h3 : ((passTF s (ev i).s).b.deed (ev i)).2 ≠ 0
  · rw [if_pos h3, if_pos h3, if_neg h3]
  · rw [if_neg h3, if_neg h3, if_pos rfl]
theorem playT_snoc (ev : Nat → Ev) : ∀ (k i : Nat) (s : Ga), playT ev 1048576 (k + 1) i s = if (playT ev 1048576 k i s).2.2 = 0 then oneT ev (i + k) (playT ev 1048576 k i s).1 else playT ev 1048576 k i s
  | 0, i, s => by
    rw [playT_one]
    simp only [playT, Nat.add_zero]
    split
    · rename_i h
      unfold oneT at h ⊢
      repeat' split at h
      all_goals first | cases h | exact absurd h ‹_› | skip
      rename_i a b c
      rw [if_neg a, if_neg b, if_neg c, if_pos trivial]
    · rw [if_pos trivial]
  | k + 1, i, s => by
    rw [playT_one ev (k + 1), playT_snoc ev k (i + 1), playT_one ev k i s]
    by_cases h : (oneT ev i s).2.2 = 0
    · simp only [if_pos h]
      rw [show i + 1 + k = i + (k + 1) by omega]
    · simp only [if_neg h]
/-- The state behind so many events, and its error. -/
def stA (ev : Nat → Ev) (k : Nat) : Ga := (playT ev 1048576 k 0 G0).1
def erA (ev : Nat → Ev) (k : Nat) : Int := (playT ev 1048576 k 0 G0).2.2
theorem erA_le {ev : Nat → Ev} {n : Nat} (h : erA ev n = 0) : ∀ k, k ≤ n → erA ev k = 0 := by
  induction n with
  | zero => intro k hk; obtain rfl : k = 0 := by omega
            exact h
  | succ n ih =>
    have h1 : erA ev n = 0 := by
      unfold erA at h ⊢
      rw [playT_snoc] at h
      by_cases q : (playT ev 1048576 n 0 G0).2.2 = 0
      · exact q
      · rw [if_neg q] at h; exact h
    intro k hk
    rcases Nat.lt_or_ge k (n + 1) with q | q
    · exact ih h1 k (by omega)
    · obtain rfl : k = n + 1 := by omega
      exact h
theorem stA_succ {ev : Nat → Ev} {k : Nat} (h : erA ev (k + 1) = 0) : evOk (ev k) = true ∧ (k ≠ 0 → (ev (k - 1)).s ≤ (ev k).s) ∧ ((passTF (stA ev k) (ev k).s).b.deed (ev k)).2 = 0 ∧
    stA ev (k + 1) = ⟨((passTF (stA ev k) (ev k).s).b.deed (ev k)).1, (ev k).s, (passTF (stA ev k) (ev k).s).out⟩ := by
  have h0 := erA_le h k (by omega)
  have e : playT ev 1048576 (k + 1) 0 G0 = oneT ev k (stA ev k) := by
    rw [playT_snoc, Nat.zero_add, if_pos (show (playT ev 1048576 k 0 G0).2.2 = 0 from h0)]; rfl
  unfold erA at h
  have e2 : stA ev (k + 1) = (oneT ev k (stA ev k)).1 := by rw [← e]; rfl
  rw [e] at h
  rw [e2]
  generalize stA ev k = s at h ⊢
  unfold oneT at h ⊢
  repeat' split at h
  all_goals first | cases h | exact absurd h ‹_› | skip
  rename_i a b c
  rw [if_neg a, if_neg b, if_neg c]
  exact ⟨by simpa using a, fun q => by omega, by simpa using c, rfl⟩
theorem stA_now {ev : Nat → Ev} {k : Nat} (h : erA ev (k + 1) = 0) : (stA ev (k + 1)).now = (ev k).s := by rw [(stA_succ h).2.2.2]
theorem ev_mono {ev : Nat → Ev} {n : Nat} (h : erA ev n = 0) : ∀ k, k < n → ∀ j, j ≤ k → (ev j).s ≤ (ev k).s
  | 0, _, j, hj => by obtain rfl : j = 0 := by omega
                      exact Int.le_refl _
  | k + 1, hk, j, hj => by
    rcases Nat.lt_or_ge j (k + 1) with q | q
    · have h1 := ev_mono h k (by omega) j (by omega)
      have h2 := (stA_succ (erA_le h (k + 2) (by omega))).2.1 (by omega)
      rw [Nat.add_sub_cancel] at h2
      omega
    · obtain rfl : j = k + 1 := by omega
      exact Int.le_refl _
/-- Up to a second that none of the events is behind. -/
theorem playT_all {ev : Nat → Ev} {to : Int} (hto : to ≤ 1048576) : ∀ (k i : Nat) (s : Ga), (∀ j, i ≤ j → j < i + k → (ev j).s ≤ to) → playT ev to k i s = playT ev 1048576 k i s
  | 0, i, s, _ => rfl
  | k + 1, i, s, h => by
    have h1 := h i (by omega) (by omega)
    unfold playT
    rw [if_neg (show ¬ to < (ev i).s by omega), if_neg (show ¬ (1048576 : Int) < (ev i).s by omega), playT_all hto k (i + 1) _ (fun j a b => h j (by omega) (by omega))]
theorem plT_eq {k : Nat} {l : Nat → Nat → Int} (hk : k ≤ 256) (h : erA (evN l) k = 0) : plT k l = ((stA (evN l) k).b, (k : Int), 0) := by
  unfold plT
  rw [if_neg (by omega), if_neg (show ¬ (playT (evN l) 1048576 k 0 G0).2.2 ≠ 0 from fun q => q h)]
  have := ((rel_play (ev := evN l) k 0 G0 G0 rel0 G0_ok G0_cnt (by omega)).2.2 h).1
  rw [this, Nat.zero_add]
  rfl
theorem plT_er {k : Nat} {l : Nat → Nat → Int} (hk : k ≤ 256) : (plT k l).2.2 = erA (evN l) k := by
  by_cases h : erA (evN l) k = 0
  · rw [plT_eq hk h, h]
  · unfold plT
    rw [if_neg (by omega), if_pos (show (playT (evN l) 1048576 k 0 G0).2.2 ≠ 0 from h)]
    rfl
theorem agT_sec {k : Nat} {l : Nat → Nat → Int} {to : Int} (hk : k ≤ 256) (h : erA (evN l) k = 0) (h0 : 0 ≤ to) (hto : to ≤ 1048576) (ht : ∀ j, j < k → (evN l j).s ≤ to) : agT k l to = (passTF (stA (evN l) k) to, 0) := by
  unfold agT
  rw [if_neg (by rw [plT_er hk, h]; simp), if_neg (by rw [in3_iff.2 ⟨h0, hto⟩]; simp), playT_all hto k 0 G0 (fun j _ b => ht j (by omega))]
  rfl
theorem stA_ok {ev : Nat → Ev} {k : Nat} (hk : k ≤ 256) : (stA ev k).Ok := playT_ok (ev := ev) (to := 1048576) k 0 G0 G0_ok G0_cnt (by omega)
/-- So many seconds of a team's penalties. -/
def itS : Nat → List Pen → List Pen
  | 0, l => l
  | m + 1, l => itS m (goneS 1 l)
theorem passT_it {to : Int} : ∀ (m : Nat) (s : Ga), (0 < m → s.b.run = true ∧ s.b.pl + m ≤ 1200) → s.now + m = to → (passT m s to).b.p0 = itS m s.b.p0 ∧ (passT m s to).b.p1 = itS m s.b.p1
  | 0, s, _, _ => ⟨rfl, rfl⟩
  | m + 1, s, h, hn => by
    obtain ⟨h1, h2⟩ := h (by omega)
    simp only [passT]
    rw [if_pos ⟨h1, by omega⟩]
    exact passT_it m s.tick (fun q => ⟨by simp only [Ga.tick, Bo.pass, decide_eq_true_eq]; omega, by simp only [Ga.tick, Bo.pass]; omega⟩) (by simp only [Ga.tick]; omega)
theorem wholeT_bd : ∀ (f : Nat) (l : List Pen), 0 ≤ wholeT f l ∧ wholeT f l ≤ f
  | 0, l => ⟨Int.le_refl _, Int.le_refl _⟩
  | f + 1, l => by
    have := wholeT_bd f (goneS 1 l)
    unfold wholeT
    split <;> omega
theorem wholeT_it : ∀ (f : Nat) (l : List Pen), (wholeT f l < f → itS (wholeT f l).toNat l = []) ∧ ∀ m : Nat, (m : Int) < wholeT f l → itS m l ≠ []
  | 0, l => ⟨fun h => absurd h (by simp [wholeT]), fun m h => absurd h (by simp [wholeT])⟩
  | f + 1, l => by
    obtain ⟨a, b⟩ := wholeT_it f (goneS 1 l)
    obtain ⟨c, d⟩ := wholeT_bd f (goneS 1 l)
    unfold wholeT
    split
    · rename_i h; exact ⟨fun _ => by rw [h]; rfl, fun m hm => by omega⟩
    · rename_i h
      refine ⟨fun q => ?_, fun m hm => ?_⟩
      · rw [show (1 + wholeT f (goneS 1 l)).toNat = (wholeT f (goneS 1 l)).toNat + 1 by omega]
        exact a (by omega)
      · cases m with
        | zero => exact h
        | succ m => exact b m (by omega)
end Go.Eng
end

/- clock: Whole from a game (plain). -/
section
namespace Go.Eng
open Go Go.RowKit Go.Proofs
set_option maxRecDepth 100000
set_option maxHeartbeats 4000000
attribute [local irreducible] OwnT DefS
/-- Penalties as events give them. -/
def pkL (l : List Pen) : Prop := ∀ p ∈ l, (0 ≤ p.a ∧ p.a ≤ 4095) ∧ p.l ≤ 300
def Bo.Pk (b : Bo) : Prop := pkL b.p0 ∧ pkL b.p1
theorem goneW_mem {m : Nat} {w : Nat → Int} {n : Int} {l : List Pen} (hn : 0 ≤ n) {p : Pen} (hp : p ∈ goneW m w n l) : ∃ q ∈ l, p.a = q.a ∧ p.k = q.k ∧ p.l ≤ q.l := by
  simp only [goneW, List.mem_filter] at hp
  obtain ⟨i, hi, rfl⟩ := mem_pl hp.1
  refine ⟨_, pf_mem hi, ?_, ?_, ?_⟩
  · simp [pn]
  · simp [pn]
  · simp only [pn]; split <;> omega
theorem goneS_pk {n : Int} {l : List Pen} (hn : 0 ≤ n) (h : pkL l) : pkL (goneS n l) := fun p hp => by
  obtain ⟨q, hq, h1, _, h3⟩ := goneW_mem hn hp
  have := h q hq
  omega
theorem passT_pk {to : Int} : ∀ (k : Nat) (s : Ga), s.b.Pk → (passT k s to).b.Pk
  | 0, s, h => h
  | k + 1, s, h => by
    simp only [passT]
    split
    · exact passT_pk k _ ⟨goneS_pk (by omega) h.1, goneS_pk (by omega) h.2⟩
    · exact h
theorem goal_pk {l : List Pen} (h : pkL l) : pkL (goalL l) := fun p hp => h p ((goalL_sub l).2 p hp)
theorem gives_pk {k p : Int} (h : 0 ≤ p ∧ p ≤ 4095) : pkL (gives k p) := by
  unfold gives pkL
  repeat' split
  all_goals simp
  all_goals omega
theorem app_pk {l k : List Pen} (h : pkL l) (h2 : pkL k) : pkL (l ++ k) := fun p hp => by
  rcases List.mem_append.1 hp with q | q
  · exact h p q
  · exact h2 p q
theorem deed_pk {b : Bo} (h : b.Pk) {x : Ev} (hx : evOk x = true) : (b.deed x).1.Pk := by
  have he := evOk_iff.1 hx
  obtain ⟨h1, h2⟩ := h
  have g1 := goal_pk h1
  have g2 := goal_pk h2
  have a1 : ¬ x.k = 0 → ¬ x.k = 1 → ¬ x.k = 2 → pkL (b.p0 ++ gives x.k x.p) := fun _ _ _ => app_pk h1 (gives_pk (by omega))
  have a2 : ¬ x.k = 0 → ¬ x.k = 1 → ¬ x.k = 2 → pkL (b.p1 ++ gives x.k x.p) := fun _ _ _ => app_pk h2 (gives_pk (by omega))
  unfold Bo.deed Bo.start Bo.stop Bo.goal Bo.give
  repeat' split
  all_goals constructor
  all_goals dsimp only
  all_goals first | exact h1 | exact h2 | exact g1 | exact g2 | exact a1 ‹_› ‹_› ‹_› | exact a2 ‹_› ‹_› ‹_› | (split <;> first | exact h1 | exact h2 | exact g1 | exact g2)
theorem stA_pk {ev : Nat → Ev} : ∀ {k : Nat}, erA ev k = 0 → (stA ev k).b.Pk
  | 0, _ => ⟨fun p hp => by simp [stA, playT, G0, Bo.z] at hp, fun p hp => by simp [stA, playT, G0, Bo.z] at hp⟩
  | k + 1, h => by
    obtain ⟨h1, _, _, h2⟩ := stA_succ h
    rw [h2]
    exact deed_pk (passT_pk _ _ (stA_pk (erA_le h k (by omega)))) h1
theorem stA_cnt {ev : Nat → Ev} : ∀ {k : Nat}, erA ev k = 0 → (stA ev k).b.Cnt k
  | 0, _ => G0_cnt
  | k + 1, h => by
    obtain ⟨h1, _, _, h2⟩ := stA_succ h
    rw [h2]
    exact deed_cnt (passT_cnt _ _ (stA_cnt (erA_le h k (by omega)))) _
theorem okL_of {l : List Pen} (h : lOk l) (h2 : pkL l) (hl : l.length ≤ 256) : okL l = true := by
  unfold okL
  rw [decide_eq_true hl, Bool.true_and, Bool.not_eq_true']
  cases e : anyB (pf l) l.length
  · rfl
  · obtain ⟨i, hi, hb⟩ := anyB_iff.1 e
    have h3 := h.2 _ (pf_mem hi)
    have h4 := h2 _ (pf_mem hi)
    simp only at h3 h4
    simp only [badF, Bool.not_eq_true', Bool.and_eq_false_iff, in3_false] at hb
    omega
def Bo.pt (b : Bo) (t : Int) : List Pen := if t = 0 then b.p0 else b.p1
theorem whole_st {ev : Nat → Ev} {k : Nat} (h : erA ev k = 0) (hk : k ≤ 60) {t : Int} (ht : t = 0 ∨ t = 1) : ∃ w : Nat, w ≤ 76800 ∧ wholeRT (stA ev k).b.p0 (stA ev k).b.p1 t = ((w : Int), 0) ∧ itS w ((stA ev k).b.pt t) = [] ∧ (∀ m, m < w → itS m ((stA ev k).b.pt t) ≠ []) ∧ ((w : Int) = 0 ↔ (stA ev k).b.pt t = []) := by
  have hok := (stA_ok (ev := ev) (k := k) (by omega)).b
  have hpk := stA_pk h
  have hc := stA_cnt h
  have c0 := hc.p0
  have c1 := hc.p1
  have e : wholeRT (stA ev k).b.p0 (stA ev k).b.p1 t = (wholeT 76800 ((stA ev k).b.pt t), 0) := by
    unfold wholeRT Bo.pt
    rw [okL_of hok.p0 hpk.1 (by omega), okL_of hok.p1 hpk.2 (by omega), if_neg (by simp), if_neg (by rw [in3_iff.2 (by omega)]; simp)]
    split <;> rfl
  rw [e]
  have hl : lOk ((stA ev k).b.pt t) ∧ (∀ p ∈ (stA ev k).b.pt t, p.l ≤ 300) ∧ ((stA ev k).b.pt t).length ≤ 120 := by
    unfold Bo.pt
    split
    · exact ⟨hok.p0, fun p hp => (hpk.1 p hp).2, by omega⟩
    · exact ⟨hok.p1, fun p hp => (hpk.2 p hp).2, by omega⟩
  generalize (stA ev k).b.pt t = l at hl
  obtain ⟨f, hf⟩ : ∃ f : Nat, f = 76799 := ⟨_, rfl⟩
  rw [show 76800 = f + 1 by omega]
  have e1 : wholeT (f + 1) l = wholeT f l := by
    rw [← whole_wholeT l.length f l hl.1 hl.2.1 (Nat.le_refl _) (by omega), ← whole_wholeT l.length (f + 1) l hl.1 hl.2.1 (Nat.le_refl _) (by omega)]
  have b1 := wholeT_bd f l
  obtain ⟨i1, i2⟩ := wholeT_it (f + 1) l
  refine ⟨(wholeT (f + 1) l).toNat, by omega, ?_, i1 (by omega), fun m hm => i2 m (by omega), ?_⟩
  · rw [Int.toNat_of_nonneg (by omega)]
  · rw [Int.toNat_of_nonneg (by omega)]
    have b2 := wholeT_bd f (goneS 1 l)
    unfold wholeT
    split
    · rename_i q; simp [q]
    · rename_i q; exact ⟨fun r => by omega, fun r => absurd r q⟩
/-- Behind one more start. -/
theorem whole_on {l on : Nat → Nat → Int} {n : Nat} (hn : n ≤ 60) (hE : erA (evN l) n = 0) (h0 : n ≠ 0) (hr : (stA (evN l) n).b.run = false) (hon : ∀ i, i < n → evN on i = evN l i) (hst : evN on n = ⟨0, (evN l (n - 1)).s, 0, 0⟩)
    {w : Nat} (hw : w ≠ 0) (hpl : (if (stA (evN l) n).b.pl = 1200 then 0 else (stA (evN l) n).b.pl) + w ≤ 1200) (hs : (evN l (n - 1)).s + w ≤ 1048576) :
    ((stA (evN l) n).b.per = 2 ∧ ∀ to, (agT (n + 1) on to).2 = 9) ∨ (∀ m : Nat, m ≤ w → (agT (n + 1) on ((evN l (n - 1)).s + m)).2 = 0 ∧ (agT (n + 1) on ((evN l (n - 1)).s + m)).1.b.p0 = itS m (stA (evN l) n).b.p0 ∧ (agT (n + 1) on ((evN l (n - 1)).s + m)).1.b.p1 = itS m (stA (evN l) n).b.p1) := by
  obtain ⟨k, rfl⟩ : ∃ k, n = k + 1 := ⟨n - 1, by omega⟩
  rw [Nat.add_sub_cancel] at *
  have hnow := stA_now hE
  have hok := stA_ok (ev := evN l) (k := k + 1) (by omega)
  have hs0 := hok.now
  rw [hnow] at hs0
  have hmono := ev_mono hE k (by omega)
  have ec : playT (evN on) 1048576 (k + 1) 0 G0 = playT (evN l) 1048576 (k + 1) 0 G0 := playT_congr _ _ _ (fun j hj => hon j (by omega))
  have e1 : erA (evN on) (k + 1) = 0 := by unfold erA; rw [ec]; exact hE
  have e2 : stA (evN on) (k + 1) = stA (evN l) (k + 1) := by unfold stA; rw [ec]
  have e3 : playT (evN on) 1048576 (k + 1 + 1) 0 G0 = oneT (evN on) (k + 1) (stA (evN l) (k + 1)) := by
    rw [playT_snoc, Nat.zero_add, if_pos (show (playT (evN on) 1048576 (k + 1) 0 G0).2.2 = 0 from e1)]
    exact congrArg _ e2
  generalize hS : stA (evN l) (k + 1) = S at *
  have hp : passTF S (evN l k).s = ⟨S.b, (evN l k).s, S.out⟩ := by
    unfold passTF
    rw [hnow, Int.sub_self]; rfl
  have e4 : oneT (evN on) (k + 1) S = if (S.b.start).2 ≠ 0 then (S, k + 1, (S.b.start).2) else (⟨(S.b.start).1, (evN l k).s, S.out⟩, k + 1 + 1, 0) := by
    unfold oneT
    rw [hst, if_neg (by rw [evOk_iff.2 ⟨by simp, by simpa using hs0, by simp, by simp⟩]; simp), if_neg (by rw [Nat.add_sub_cancel, hon k (by omega)]; simp)]
    simp only [hp, Bo.deed, if_true]
  rw [e4] at e3
  by_cases hf : S.b.pl = 1200 ∧ ¬ S.b.per < 2
  · left
    have hst9 : S.b.start = (S.b, 9) := by unfold Bo.start; rw [if_neg (by simp [hr]), if_pos hf.1, if_neg hf.2]
    rw [hst9, if_pos (by simp)] at e3
    have hper := hok.b.per
    refine ⟨by omega, fun to => ?_⟩
    have : (plT (k + 1 + 1) on).2.2 = 9 := by rw [plT_er (by omega)]; unfold erA; rw [e3]
    unfold agT
    rw [if_pos (by rw [this]; simp), this]
  · right
    have hst0 : (S.b.start).2 = 0 ∧ (S.b.start).1.run = true ∧ (S.b.start).1.pl = (if S.b.pl = 1200 then 0 else S.b.pl) ∧ (S.b.start).1.p0 = S.b.p0 ∧ (S.b.start).1.p1 = S.b.p1 := by
      unfold Bo.start
      rw [if_neg (by simp [hr])]
      by_cases q : S.b.pl = 1200
      · rw [if_pos q, if_pos (by omega), if_pos q]; exact ⟨rfl, rfl, rfl, rfl, rfl⟩
      · rw [if_neg q, if_neg q]; exact ⟨rfl, rfl, rfl, rfl, rfl⟩
    obtain ⟨s1, s2, s3, s4, s5⟩ := hst0
    rw [s1, if_neg (by simp)] at e3
    have x1 : erA (evN on) (k + 1 + 1) = 0 := by unfold erA; rw [e3]
    have x2 : stA (evN on) (k + 1 + 1) = ⟨(S.b.start).1, (evN l k).s, S.out⟩ := by unfold stA; rw [e3]
    intro m hm
    have hm2 : (m : Int) ≤ w := by omega
    rw [agT_sec (by omega) x1 (by omega) (by omega) (fun j hj => by
      rcases Nat.lt_or_ge j (k + 1) with q | q
      · rw [hon j q]; have := hmono j (by omega); omega
      · obtain rfl : j = k + 1 := by omega
        rw [hst]; simp only []; omega), x2]
    refine ⟨rfl, ?_⟩
    have := passT_it (to := (evN l k).s + m) m ⟨(S.b.start).1, (evN l k).s, S.out⟩ (fun q => ⟨s2, by simp only [s3]; omega⟩) rfl
    simp only [s4, s5] at this
    unfold passTF
    rw [show ((evN l k).s + (m : Int) - (evN l k).s).toNat = m by omega]
    exact this
end Go.Eng
end

/- clock: ClockWhole. -/
section
namespace Go.Eng
open Go Go.RowKit Go.Proofs
set_option maxRecDepth 100000
set_option maxHeartbeats 4000000
attribute [local irreducible] OwnT DefS
theorem plT_congr {l l' : Nat → Nat → Int} {n : Nat} (h : ∀ i j, i < n → j < 4 → l i j = l' i j) : plT n l = plT n l' := by rw [← plR_plT, ← plR_plT, plR_congr h]
theorem agT_congr {l l' : Nat → Nat → Int} {n : Nat} {to : Int} (h : ∀ i j, i < n → j < 4 → l i j = l' i j) : agT n l to = agT n l' to := by
  unfold agT
  rw [plT_congr h, playT_congr n 0 G0 (fun j hj => evN_congr h j (by omega))]
/-- One event more. -/
def onL (n : Nat) (l : Nat → Nat → Int) (a b c d : Int) (i j : Nat) : Int := if i < n then l i j else if j = 0 then a else if j = 1 then b else if j = 2 then c else d
def onV (n : Nat) (l : Nat → Nat → Int) (a b c d : Int) (i j : Nat) : SV := catF n (fun i j => .int .i64 (l i j)) (oneF [.int .i64 a, .int .i64 b, .int .i64 c, .int .i64 d]) i j
theorem frz_on (k : Nat) (h : HS) (n : Nat) (l : Nat → Nat → Int) (a b c d : Int) (i j : Nat) (A : Nat → Nat → SV) : frzF (k + 1) h (catF n (catF 0 A (fun i j => .int .i64 (l i j))) (oneF [.int .i64 a, .int .i64 b, .int .i64 c, .int .i64 d]) i j) = onV n l a b c d i j := by
  unfold onV catF oneF
  simp only [Nat.not_lt_zero, if_false, Nat.sub_zero]
  split
  · rfl
  · match j with
    | 0 => rfl
    | 1 => rfl
    | 2 => rfl
    | 3 => rfl
    | j + 4 => rfl
theorem onV_int {n : Nat} {l : Nat → Nat → Int} {a b c d : Int} {i j : Nat} (hi : i < n + 1) (hj : j < 4) : onV n l a b c d i j = .int .i64 (onL n l a b c d i j) := by
  unfold onV onL catF oneF
  split
  · rfl
  · match j, hj with
    | 0, _ => rfl
    | 1, _ => rfl
    | 2, _ => rfl
    | 3, _ => rfl
theorem intR_on (n : Nat) (l : Nat → Nat → Int) (a b c d : Int) : IntR (n + 1) 4 (fun i j => onV n l a b c d i j) = True := eq_true (fun i j hi hj => by show onV n l a b c d i j = .int .i64 (iv (onV n l a b c d i j)); rw [onV_int hi hj]; rfl)
theorem agT_on (n : Nat) (l : Nat → Nat → Int) (a b c d : Int) (to : Int) : agT (n + 1) (ivf fun i j => onV n l a b c d i j) to = agT (n + 1) (onL n l a b c d) to :=
  agT_congr (fun i j hi hj => by show iv (onV n l a b c d i j) = _; rw [onV_int hi hj]; rfl)
theorem wf_byt {w : Int} (h : (Lit.int .u8 w).wf = true) : 0 ≤ w ∧ w ≤ 255 := by
  have : (decide (IntKind.min .u8 ≤ w) && decide (w ≤ IntKind.max .u8)) = true := h
  have h1 : IntKind.min .u8 = 0 := by decide
  have h2 : IntKind.max .u8 = 255 := by decide
  rw [h1, h2] at this
  simpa using this
theorem spl_no {q : Bool} {A B : Prop} (h : q = false) (hb : B) : spl q A B := ⟨fun h' => (by rw [h] at h'; cases h'), fun _ => hb⟩
def clockWholeBase : BaseF := fun args => match args with
  | [.row n sz_l f_l, .int .u8 team] => some ((sz_l = 4 ∧ IntR n 4 f_l) ∧ ((Lit.int .u8 team).wf = true), .bool true)
  | _ => none
theorem clockWhole_eq (n : Nat) (sz_l : Nat) (f_l : Nat → Nat → SV) (team : Int) : clockWholeBase [.row n sz_l f_l, .int .u8 team] = some ((sz_l = 4 ∧ IntR n 4 f_l) ∧ ((Lit.int .u8 team).wf = true), .bool true) := rfl
theorem clockWhole_base : Base Try.prog 3 clockWholeBase := by
  intro args p v hq hp
  unfold clockWholeBase at hq
  split at hq
  rotate_left
  · cases hq
  rename_i n sz_l f_l team
  cases hq
  obtain ⟨⟨rfl, i_l⟩, wf_team⟩ := hp
  refine base_of (C := cx [] [] [(11, aliveBase), (12, playBase), (13, wholeBase), (14, atBase)] [] none) (cx_ok trivial ⟨alive_base, play_base, whole_base, at_base, trivial⟩) rfl (g := 3) (fn := Try.f3)
    (args' := [.row n 4 (rowF .i64 (ivf f_l)), .int .u8 team]) (fn_3) rfl 1000 (by
    simp only [BdL, Bd, and_self, and_true, true_and]
    exact (fun i j hi hj => by rw [i_l i j hi hj]; trivial)) ⟨SameD.int i_l, SameD.rfl' _, trivial⟩ ?_
  generalize ivf f_l = l
  simp only [rowF_eq]
  simp only [alive_eq, play_eq, whole_eq, at_eq, boS, rowP, pl_pf, plR_plT, atR_agT, wholeR_wholeRT, Try.f3, go_sem, ↓reduceIte, Nat.reduceAdd, Nat.reduceSub, Nat.reduceMul, Nat.reduceEqDiff, Nat.reduceLT, Nat.reduceLeDiff, Int.reduceToNat, Int.reduceLE, Int.reduceLT, Int.reduceEq, Int.reduceNeg, reduceCtorEq]
  have hT : IntKind.i64.wrap team = team ∧ (team.tmod 2 = 0 ∨ team.tmod 2 = 1) := by
    have := wf_byt wf_team
    exact ⟨wrap_id (by omega) (by omega), by rw [Int.tmod_eq_emod_of_nonneg this.1]; omega⟩
  rw [hT.1]
  refine spl_intro (fun e1 => trivial) (fun e1 => ?_)
  have hn : n ≤ 60 := by simp only [decide_eq_false_iff_not] at e1; omega
  refine ⟨by omega, by omega, ?_⟩
  refine spl_intro (fun e2 => trivial) (fun e2 => ?_)
  refine spl_intro (fun e3 => trivial) (fun e3 => ?_)
  refine spl_intro (fun e4 => trivial) (fun e4 => ?_)
  have hsm := plT_sm n l
  unfold Bo.Sm at hsm
  refine ⟨by omega, ?_⟩
  rw [Bool.not_eq_false', decide_eq_true_eq] at e2
  have hE : erA (evN l) n = 0 := by rw [← plT_er (by omega)]; exact e2
  rw [plT_eq (by omega) hE] at e4
  simp only at e4
  simp only [plT_eq (show n ≤ 256 by omega) hE]
  obtain ⟨k, rfl⟩ : ∃ k, n = k + 1 := ⟨n - 1, by simp only [decide_eq_false_iff_not] at e3; omega⟩
  have hok := (stA_ok (ev := evN l) (k := k + 1) (by omega)).b
  have hpl := hok.pl
  have hev := evOk_iff.1 (stA_succ hE).1
  have hs0 : 0 ≤ l k 1 ∧ l k 1 ≤ 1048576 := hev.2.1
  have wk : IntKind.i64.wrap (((k + 1 : Nat) : Int) - 1) = (k : Int) := by rw [wrap_id (by omega) (by omega)]; omega
  rcases hT.2 with hT2 | hT2
  · rw [hT2]
    obtain ⟨w, w0, w1, w2, w3, w4⟩ := whole_st hE hn (t := 0) (by omega)
    have ww := whole_on (on := onL (k + 1) l 0 (l k 1) 0 0) hn hE (by omega) e4 (fun i hi => by simp [evN, onL, hi]) (by simp [evN, onL]) (w := w)
    have x1 : IntKind.i64.wrap (0 + (w : Int)) = w := by rw [wrap_id (by omega) (by omega)]; omega
    have x2 : IntKind.i64.wrap ((stA (evN l) (k + 1)).b.pl + (w : Int)) = (stA (evN l) (k + 1)).b.pl + w := wrap_id (by omega) (by omega)
    have x3 : IntKind.i64.wrap (l k 1 + (w : Int)) = l k 1 + w := wrap_id (by omega) (by omega)
    have x4 : IntKind.i64.wrap (l k 1 + (w : Int) - 1) = l k 1 + w - 1 := wrap_id (by omega) (by omega)
    rw [w1]
    simp only [boS, rowP, pl_pf, wk, x1, x2, x3, x4, Int.toNat_natCast, frz_on, intR_on, agT_on, alive_eq, play_eq, whole_eq, at_eq, boS, rowP, pl_pf, plR_plT, atR_agT, wholeR_wholeRT, Try.f3, go_sem, ↓reduceIte, Nat.reduceAdd, Nat.reduceSub, Nat.reduceMul, Nat.reduceEqDiff, Nat.reduceLT, Nat.reduceLeDiff, Int.reduceToNat, Int.reduceLE, Int.reduceLT, Int.reduceEq, Int.reduceNeg, reduceCtorEq]
    have y0 : (stA (evN l) (k + 1)).b.pt 0 = (stA (evN l) (k + 1)).b.p0 := by unfold Bo.pt; first | rw [if_pos rfl] | rw [if_neg (by omega)]
    rw [y0] at w2 w3 w4
    have y1 : ((w : Int) = 0) ↔ (((stA (evN l) (k + 1)).b.p0.length : Nat) : Int) = 0 := by rw [w4, ← List.length_eq_zero_iff]; omega
    have y2 : (!(decide ((w : Int) = 0) == decide ((((stA (evN l) (k + 1)).b.p0.length : Nat) : Int) = 0))) = false := by
      by_cases q : (w : Int) = 0
      · rw [decide_eq_true q, decide_eq_true (y1.1 q)]; rfl
      · rw [decide_eq_false q, decide_eq_false (fun r => q (y1.2 r))]; rfl
    have key : w ≠ 0 → (if (stA (evN l) (k + 1)).b.pl = 1200 then 0 else (stA (evN l) (k + 1)).b.pl) + w ≤ 1200 → l k 1 + w ≤ 1048576 →
        ((stA (evN l) (k + 1)).b.per = 2 ∧ (agT (k + 1 + 1) (onL (k + 1) l 0 (l k 1) 0 0) (l k 1 + w)).2 = 9 ∧ (agT (k + 1 + 1) (onL (k + 1) l 0 (l k 1) 0 0) (l k 1 + w - 1)).2 = 9) ∨
        ((agT (k + 1 + 1) (onL (k + 1) l 0 (l k 1) 0 0) (l k 1 + w)).2 = 0 ∧ (agT (k + 1 + 1) (onL (k + 1) l 0 (l k 1) 0 0) (l k 1 + w - 1)).2 = 0 ∧ (((agT (k + 1 + 1) (onL (k + 1) l 0 (l k 1) 0 0) (l k 1 + w)).1.b.p0.length : Nat) : Int) = 0 ∧ (0 : Int) < (((agT (k + 1 + 1) (onL (k + 1) l 0 (l k 1) 0 0) (l k 1 + w - 1)).1.b.p0.length : Nat) : Int)) := fun a b c => by
      rcases ww a b c with ⟨h1, h2⟩ | h
      · exact .inl ⟨h1, h2 _, h2 _⟩
      · right
        have q1 := h w (by omega)
        have q2 := h (w - 1) (by omega)
        have es : (evN l (k + 1 - 1)).s = l k 1 := rfl
        rw [es] at q1 q2
        rw [show l k 1 + ((w - 1 : Nat) : Int) = l k 1 + w - 1 by omega] at q2
        refine ⟨q1.1, q2.1, ?_, ?_⟩
        · rw [q1.2.1, w2]; rfl
        · rw [q2.2.1]
          have := w3 (w - 1) (by omega)
          have := List.length_pos_iff.2 this
          omega
    clear ww
    refine spl_no (decide_eq_false (by omega)) ⟨by omega, spl_no y2 ⟨⟨by omega, by omega⟩, ?_⟩⟩
    refine spl_intro (fun f0 => ?_) (fun f0 => ?_)
    all_goals
      simp only [decide_eq_true_eq, decide_eq_false_iff_not] at f0
      refine spl_intro (fun _ => trivial) (fun f1 => spl_intro (fun _ => trivial) (fun f2 => spl_intro (fun _ => trivial) (fun f3 => ⟨by omega, by omega, spl_no (decide_eq_false (by omega)) ⟨by omega, by omega, ?_⟩⟩)))
      simp only [decide_eq_false_iff_not] at f1 f2 f3
      rcases key (by omega) (by first | (rw [if_pos f0]; omega) | (rw [if_neg f0]; omega)) (by omega) with ⟨h1, h2, h3⟩ | ⟨h1, h2, h3, h4⟩
      · simp [spl, h1, h2, h3]
      · simp only [h1, h2, h3, decide_eq_true h4]
        simp [spl]
  · rw [hT2]
    obtain ⟨w, w0, w1, w2, w3, w4⟩ := whole_st hE hn (t := 1) (by omega)
    have ww := whole_on (on := onL (k + 1) l 0 (l k 1) 0 0) hn hE (by omega) e4 (fun i hi => by simp [evN, onL, hi]) (by simp [evN, onL]) (w := w)
    have x1 : IntKind.i64.wrap (0 + (w : Int)) = w := by rw [wrap_id (by omega) (by omega)]; omega
    have x2 : IntKind.i64.wrap ((stA (evN l) (k + 1)).b.pl + (w : Int)) = (stA (evN l) (k + 1)).b.pl + w := wrap_id (by omega) (by omega)
    have x3 : IntKind.i64.wrap (l k 1 + (w : Int)) = l k 1 + w := wrap_id (by omega) (by omega)
    have x4 : IntKind.i64.wrap (l k 1 + (w : Int) - 1) = l k 1 + w - 1 := wrap_id (by omega) (by omega)
    rw [w1]
    simp only [boS, rowP, pl_pf, wk, x1, x2, x3, x4, Int.toNat_natCast, frz_on, intR_on, agT_on, alive_eq, play_eq, whole_eq, at_eq, boS, rowP, pl_pf, plR_plT, atR_agT, wholeR_wholeRT, Try.f3, go_sem, ↓reduceIte, Nat.reduceAdd, Nat.reduceSub, Nat.reduceMul, Nat.reduceEqDiff, Nat.reduceLT, Nat.reduceLeDiff, Int.reduceToNat, Int.reduceLE, Int.reduceLT, Int.reduceEq, Int.reduceNeg, reduceCtorEq]
    have y0 : (stA (evN l) (k + 1)).b.pt 1 = (stA (evN l) (k + 1)).b.p1 := by unfold Bo.pt; first | rw [if_pos rfl] | rw [if_neg (by omega)]
    rw [y0] at w2 w3 w4
    have y1 : ((w : Int) = 0) ↔ (((stA (evN l) (k + 1)).b.p1.length : Nat) : Int) = 0 := by rw [w4, ← List.length_eq_zero_iff]; omega
    have y2 : (!(decide ((w : Int) = 0) == decide ((((stA (evN l) (k + 1)).b.p1.length : Nat) : Int) = 0))) = false := by
      by_cases q : (w : Int) = 0
      · rw [decide_eq_true q, decide_eq_true (y1.1 q)]; rfl
      · rw [decide_eq_false q, decide_eq_false (fun r => q (y1.2 r))]; rfl
    have key : w ≠ 0 → (if (stA (evN l) (k + 1)).b.pl = 1200 then 0 else (stA (evN l) (k + 1)).b.pl) + w ≤ 1200 → l k 1 + w ≤ 1048576 →
        ((stA (evN l) (k + 1)).b.per = 2 ∧ (agT (k + 1 + 1) (onL (k + 1) l 0 (l k 1) 0 0) (l k 1 + w)).2 = 9 ∧ (agT (k + 1 + 1) (onL (k + 1) l 0 (l k 1) 0 0) (l k 1 + w - 1)).2 = 9) ∨
        ((agT (k + 1 + 1) (onL (k + 1) l 0 (l k 1) 0 0) (l k 1 + w)).2 = 0 ∧ (agT (k + 1 + 1) (onL (k + 1) l 0 (l k 1) 0 0) (l k 1 + w - 1)).2 = 0 ∧ (((agT (k + 1 + 1) (onL (k + 1) l 0 (l k 1) 0 0) (l k 1 + w)).1.b.p1.length : Nat) : Int) = 0 ∧ (0 : Int) < (((agT (k + 1 + 1) (onL (k + 1) l 0 (l k 1) 0 0) (l k 1 + w - 1)).1.b.p1.length : Nat) : Int)) := fun a b c => by
      rcases ww a b c with ⟨h1, h2⟩ | h
      · exact .inl ⟨h1, h2 _, h2 _⟩
      · right
        have q1 := h w (by omega)
        have q2 := h (w - 1) (by omega)
        have es : (evN l (k + 1 - 1)).s = l k 1 := rfl
        rw [es] at q1 q2
        rw [show l k 1 + ((w - 1 : Nat) : Int) = l k 1 + w - 1 by omega] at q2
        refine ⟨q1.1, q2.1, ?_, ?_⟩
        · rw [q1.2.2, w2]; rfl
        · rw [q2.2.2]
          have := w3 (w - 1) (by omega)
          have := List.length_pos_iff.2 this
          omega
    clear ww
    refine spl_no (decide_eq_false (by omega)) ⟨by omega, spl_no y2 ⟨⟨by omega, by omega⟩, ?_⟩⟩
    refine spl_intro (fun f0 => ?_) (fun f0 => ?_)
    all_goals
      simp only [decide_eq_true_eq, decide_eq_false_iff_not] at f0
      refine spl_intro (fun _ => trivial) (fun f1 => spl_intro (fun _ => trivial) (fun f2 => spl_intro (fun _ => trivial) (fun f3 => ⟨by omega, by omega, spl_no (decide_eq_false (by omega)) ⟨by omega, by omega, ?_⟩⟩)))
      simp only [decide_eq_false_iff_not] at f1 f2 f3
      rcases key (by omega) (by first | (rw [if_pos f0]; omega) | (rw [if_neg f0]; omega)) (by omega) with ⟨h1, h2, h3⟩ | ⟨h1, h2, h3, h4⟩
      · simp [spl, h1, h2, h3]
      · simp only [h1, h2, h3, decide_eq_true h4]
        simp [spl]
end Go.Eng
end

/- clock: two penalties of the two teams in another order; what is shown (plain). -/
section
namespace Go.Eng
open Go Go.RowKit Go.Proofs
set_option maxRecDepth 100000
set_option maxHeartbeats 4000000
attribute [local irreducible] OwnT DefS
theorem oneT_ok {ev : Nat → Ev} {i : Nat} {s : Ga} (h1 : evOk (ev i) = true) (h2 : i ≠ 0 → (ev (i - 1)).s ≤ (ev i).s) (h3 : ((passTF s (ev i).s).b.deed (ev i)).2 = 0) :
    oneT ev i s = (⟨((passTF s (ev i).s).b.deed (ev i)).1, (ev i).s, (passTF s (ev i).s).out⟩, i + 1, 0) := by
  unfold oneT
  rw [if_neg (by simp [h1]), if_neg (fun q => by have := h2 q.1; omega), if_neg (by simp [h3])]
theorem passTF_stay (s : Ga) : passTF s s.now = s := by
  unfold passTF
  rw [Int.sub_self]
  rfl
theorem give_ok {b : Bo} {x : Ev} (hk : 3 ≤ x.k) (h : (b.deed x).2 = 0) : b.run = false ∧ b.deed x = b.give x.k x.t x.p := by
  have e : b.deed x = b.give x.k x.t x.p := by unfold Bo.deed; rw [if_neg (by omega), if_neg (by omega), if_neg (by omega)]
  rw [e] at h
  refine ⟨?_, e⟩
  cases hr : b.run
  · rfl
  · unfold Bo.give at h; rw [if_pos hr] at h; simp at h
theorem stA_two {ev : Nat → Ev} {j : Nat} {b : Bo} {s : Int} {out : List Pen} (he : erA ev j = 0) (hp : passTF (stA ev j) s = ⟨b, s, out⟩) (hr : b.run = false) (x1 : evOk (ev j) = true) (x2 : evOk (ev (j + 1)) = true) (k1 : 3 ≤ (ev j).k) (k2 : 3 ≤ (ev (j + 1)).k) (s1 : (ev j).s = s) (s2 : (ev (j + 1)).s = s) (ho : j ≠ 0 → (ev (j - 1)).s ≤ s) :
    playT ev 1048576 (j + 2) 0 G0 = (⟨((b.give (ev j).k (ev j).t (ev j).p).1.give (ev (j + 1)).k (ev (j + 1)).t (ev (j + 1)).p).1, s, out⟩, j + 2, 0) := by
  have g0 : ∀ (c : Bo) (x : Ev), 3 ≤ x.k → c.deed x = c.give x.k x.t x.p := fun c x hk => by unfold Bo.deed; rw [if_neg (by omega), if_neg (by omega), if_neg (by omega)]
  have g1 : ∀ (c : Bo) (k t p : Int), c.run = false → (c.give k t p).2 = 0 ∧ (c.give k t p).1.run = false := fun c k t p h => by
    unfold Bo.give; rw [if_neg (by simp [h])]; split <;> exact ⟨rfl, h⟩
  have e1 : playT ev 1048576 (j + 1) 0 G0 = (⟨(b.give (ev j).k (ev j).t (ev j).p).1, s, out⟩, j + 1, 0) := by
    rw [playT_snoc, if_pos (show (playT ev 1048576 j 0 G0).2.2 = 0 from he), Nat.zero_add]
    have : (playT ev 1048576 j 0 G0).1 = stA ev j := rfl
    rw [this, oneT_ok x1 (by rw [s1]; exact ho) (by rw [s1, hp, g0 _ _ k1]; exact (g1 _ _ _ _ hr).1), s1, hp, g0 _ _ k1]
  have h3 := g1 b (ev j).k (ev j).t (ev j).p hr
  rw [show j + 2 = (j + 1) + 1 from rfl, playT_snoc, e1, if_pos rfl, Nat.zero_add]
  have st := passTF_stay ⟨(b.give (ev j).k (ev j).t (ev j).p).1, s, out⟩
  simp only at st
  rw [oneT_ok x2 (by rw [s2, Nat.add_sub_cancel, s1]; exact fun _ => Int.le_refl _) (by rw [s2, st, g0 _ _ k2]; exact (g1 _ _ _ _ h3.2).1), s2, st, g0 _ _ k2]
/-- Two events change places. -/
def swF (l : Nat → Nat → Int) (j x c : Nat) : Int := if x = j then l (j + 1) c else if x = j + 1 then l j c else l x c
theorem swap_pl {l : Nat → Nat → Int} {n j : Nat} (hn : n ≤ 256) (hE : erA (evN l) n = 0) (hj : j + 1 < n) (k1 : 3 ≤ l j 0) (k2 : 3 ≤ l (j + 1) 0) (hs : l j 1 = l (j + 1) 1) (t1 : l j 2 = 0) (t2 : l (j + 1) 2 = 1) :
    plT n (swF l j) = plT n l ∧ erA (evN (swF l j)) n = 0 := by
  have q0 : evN (swF l j) j = evN l (j + 1) := by simp [evN, swF]
  have q1 : evN (swF l j) (j + 1) = evN l j := by simp [evN, swF]
  have qx : ∀ x, x ≠ j → x ≠ j + 1 → evN (swF l j) x = evN l x := fun x a b => by simp [evN, swF, a, b]
  have qs : ∀ x, (evN (swF l j) x).s = (evN l x).s := fun x => by
    by_cases a : x = j
    · subst a; rw [q0]; exact hs.symm
    · by_cases b : x = j + 1
      · subst b; rw [q1]; exact hs
      · rw [qx x a b]
  have hj0 := erA_le hE j (by omega)
  obtain ⟨a1, a2, a3, a4⟩ := stA_succ (erA_le hE (j + 1) (by omega))
  obtain ⟨b1, b2, b3, b4⟩ := stA_succ (erA_le hE (j + 2) (by omega))
  have c0 : playT (evN (swF l j)) 1048576 j 0 G0 = playT (evN l) 1048576 j 0 G0 := playT_congr _ _ _ (fun x hx => qx x (by omega) (by omega))
  have c1 : erA (evN (swF l j)) j = 0 := by unfold erA; rw [c0]; exact hj0
  have c2 : stA (evN (swF l j)) j = stA (evN l) j := by unfold stA; rw [c0]
  obtain ⟨b, out, hp⟩ : ∃ b out, passTF (stA (evN l) j) (evN l j).s = ⟨b, (evN l j).s, out⟩ := by
    have := passTF_now (stA (evN l) j) (evN l j).s
    generalize passTF (stA (evN l) j) (evN l j).s = P at this ⊢
    cases P with
    | mk b now out => simp only at this; exact ⟨b, out, by rw [this]⟩
  rw [hp] at a3
  obtain ⟨hr, _⟩ := give_ok (b := b) (x := evN l j) k1 a3
  have e1 := stA_two hj0 hp hr a1 b1 k1 k2 rfl hs.symm a2
  have e2 := stA_two (ev := evN (swF l j)) c1 (by rw [c2]; exact hp) hr (by rw [q0]; exact b1) (by rw [q1]; exact a1) (by rw [q0]; exact k2) (by rw [q1]; exact k1) (by rw [q0]; exact hs.symm) (by rw [q1]) (by rw [qs]; exact a2)
  have ec : playT (evN (swF l j)) 1048576 (j + 2) 0 G0 = playT (evN l) 1048576 (j + 2) 0 G0 := by
    rw [e1, e2, q0, q1]
    have u1 : (evN l j).t = 0 := t1
    have u2 : (evN l (j + 1)).t = 1 := t2
    rw [u1, u2]
    congr 2
    unfold Bo.give
    simp [hr]
  have key : ∀ m, playT (evN (swF l j)) 1048576 (j + 2 + m) 0 G0 = playT (evN l) 1048576 (j + 2 + m) 0 G0 := fun m => by
    induction m with
    | zero => exact ec
    | succ m ih =>
      rw [show j + 2 + (m + 1) = j + 2 + m + 1 by omega, playT_snoc, playT_snoc, ih]
      have : ∀ s, oneT (evN (swF l j)) (0 + (j + 2 + m)) s = oneT (evN l) (0 + (j + 2 + m)) s := fun s => by
        unfold oneT
        rw [qs (0 + (j + 2 + m) - 1), qx (0 + (j + 2 + m)) (by omega) (by omega)]
      rw [this]
  have kn := key (n - (j + 2))
  rw [show j + 2 + (n - (j + 2)) = n by omega] at kn
  have r1 : erA (evN (swF l j)) n = 0 := by unfold erA; rw [kn]; exact hE
  refine ⟨?_, r1⟩
  rw [plT_eq hn r1, plT_eq hn hE]
  unfold stA
  rw [kn]
theorem playT_brk {ev : Nat → Ev} {to : Int} (hto : to ≤ 1048576) : ∀ (m k i : Nat) (s : Ga), m < k → Right ev i k → to < (ev (i + m)).s → (∀ j, i ≤ j → j < i + m → (ev j).s ≤ to) → (playT ev 1048576 m i s).2.2 = 0 → (playT ev to k i s).1 = (playT ev 1048576 m i s).1
  | 0, 0, i, s, h, _, _, _, _ => by omega
  | 0, k + 1, i, s, _, hr, ht, _, _ => by
    obtain ⟨a, b⟩ := hr i (by omega) (by omega)
    unfold playT
    rw [if_neg (by simp [a]), if_neg b, if_pos (by simpa using ht)]
  | m + 1, 0, i, s, h, _, _, _, _ => by omega
  | m + 1, k + 1, i, s, h, hr, ht, hj, hz => by
    obtain ⟨a, b⟩ := hr i (by omega) (by omega)
    rw [playT_one] at hz ⊢
    by_cases q : (oneT ev i s).2.2 = 0
    · rw [if_pos q] at hz ⊢
      have c : ((passTF s (ev i).s).b.deed (ev i)).2 = 0 := by
        unfold oneT at q
        rw [if_neg (by simp [a]), if_neg b] at q
        split at q
        · exact q
        · rename_i c; simpa using c
      have e : oneT ev i s = (⟨((passTF s (ev i).s).b.deed (ev i)).1, (ev i).s, (passTF s (ev i).s).out⟩, i + 1, 0) := oneT_ok a (fun z => by omega) c
      rw [e] at hz ⊢
      conv => lhs; unfold playT
      rw [if_neg (by simp [a]), if_neg b, if_neg (by have := hj i (by omega) (by omega); omega), if_neg (by simp [c])]
      exact playT_brk hto m k (i + 1) _ (by omega) (fun x y z => hr x (by omega) (by omega)) (by rw [show i + 1 + m = i + (m + 1) by omega]; exact ht) (fun x y z => hj x (by omega) (by omega)) hz
    · rw [if_neg q] at hz; exact absurd hz q
theorem agT_pre {l : Nat → Nat → Int} {n m : Nat} {to : Int} (hn : n ≤ 256) (hE : erA (evN l) n = 0) (h0 : 0 ≤ to) (hto : to ≤ 1048576) (hm : m ≤ n) (hj : ∀ j, j < m → (evN l j).s ≤ to) (hb : m = n ∨ to < (evN l m).s) : agT m l to = agT n l to := by
  rcases Nat.eq_or_lt_of_le hm with rfl | hlt
  · rfl
  have hb : to < (evN l m).s := by rcases hb with h | h; omega; exact h
  rw [agT_sec (by omega) (erA_le hE m hm) h0 hto hj]
  unfold agT
  rw [if_neg (by rw [plT_er hn, hE]; simp), if_neg (by rw [in3_iff.2 ⟨h0, hto⟩]; simp), playT_brk hto m n 0 G0 hlt (playT_right n 0 G0 hE) (by simpa using hb) (fun j _ q => hj j (by omega)) (erA_le hE m hm)]
  rfl
end Go.Eng
end

/- clock: what a goal does (plain). -/
section
namespace Go.Eng
open Go Go.RowKit Go.Proofs
set_option maxRecDepth 100000
set_option maxHeartbeats 4000000
attribute [local irreducible] OwnT DefS
def endF (O : List Pen) : Nat → Int
  | 0 => -1
  | k + 1 => if endF O k < 0 ∧ pf O (wS O k).toNat 1 = 3 then wS O k else endF O k
def wantF (O : List Pen) (e : Int) : Nat → List Pen
  | 0 => []
  | k + 1 => if (k : Int) = e then wantF O e k else wantF O e k ++ [pn (pf O) k]
theorem wantF_len (O : List Pen) (e : Int) : ∀ k, (wantF O e k).length ≤ k
  | 0 => by simp [wantF]
  | k + 1 => by
    have := wantF_len O e k
    unfold wantF
    split
    · omega
    · simp; omega
theorem wantF_none {O : List Pen} {e : Int} : ∀ m, (∀ k : Nat, k < m → (k : Int) ≠ e) → wantF O e m = Eng.pl m (pf O)
  | 0, _ => rfl
  | m + 1, h => by
    unfold wantF
    rw [if_neg (h m (by omega)), wantF_none m (fun k hk => h k (by omega)), pl_succ]
theorem want_all (O : List Pen) : wantF O (-1) O.length = O := by rw [wantF_none _ (fun k hk => by omega), pl_pf]
theorem wantF_at {O : List Pen} {j : Nat} : ∀ m, wantF O j (j + 1 + m) = (Eng.pl (j + 1 + m) (pf O)).eraseIdx j
  | 0 => by
    rw [Nat.add_zero, wantF, if_pos rfl, wantF_none _ (fun k hk => by omega), pl_succ, List.eraseIdx_append_of_length_le (by rw [pl_len]; omega), pl_len]
    simp
  | m + 1 => by
    rw [show j + 1 + (m + 1) = j + 1 + m + 1 by omega, wantF, if_neg (by omega), wantF_at m, pl_succ (j + 1 + m), List.eraseIdx_append_of_lt_length (by rw [pl_len]; omega)]
theorem want_erase {O : List Pen} {j : Nat} (hj : j < O.length) : wantF O j O.length = O.eraseIdx j := by
  have := wantF_at (O := O) (j := j) (O.length - (j + 1))
  rw [show j + 1 + (O.length - (j + 1)) = O.length by omega, pl_pf] at this
  exact this
theorem end_goal (O : List Pen) : wantF O (endF O (nS O)) O.length = goalL O := by
  have hsec := fun h => secL_spec (l := O) h
  unfold goalL
  rcases Nat.eq_zero_or_pos O.length with h0 | h0
  · have e : nS O = 0 := by unfold nS; rw [if_pos h0]
    rw [e, if_neg (by omega), if_neg (by omega)]
    exact want_all O
  · obtain ⟨s1, s2, _, _⟩ := hsec h0
    have e1 : endF O 1 = if pf O 0 1 = 3 then 0 else -1 := by simp [endF, wS]
    have w0 : wantF O 0 O.length = O.eraseIdx 0 := want_erase (j := 0) h0
    by_cases hl : secL O < O.length
    · have e : nS O = 2 := by unfold nS; rw [if_neg (by omega), if_pos hl]
      have e2 : endF O 2 = if pf O 0 1 = 3 then 0 else if pf O (secL O) 1 = 3 then (secL O : Int) else -1 := by
        rw [endF, e1]
        by_cases q : pf O 0 1 = 3
        · simp [q]
        · simp [q, wS]
      rw [e, e2]
      by_cases q : pf O 0 1 = 3
      · rw [if_pos q, if_pos ⟨by omega, q⟩]; exact w0
      · rw [if_neg q, if_neg (show ¬ ((0 : Nat) < 2 ∧ pf O 0 1 = 3) from fun r => q r.2)]
        by_cases q2 : pf O (secL O) 1 = 3
        · rw [if_pos q2, if_pos ⟨rfl, q2⟩]; exact want_erase hl
        · rw [if_neg q2, if_neg (fun r => q2 r.2)]; exact want_all O
    · have e : nS O = 1 := by unfold nS; rw [if_neg (by omega), if_neg hl]
      rw [e, e1, if_neg (show ¬ ((1 : Nat) = 2 ∧ _) from fun r => by omega)]
      by_cases q : pf O 0 1 = 3
      · rw [if_pos q, if_pos ⟨by omega, q⟩]; exact w0
      · rw [if_neg q, if_neg (fun r => q r.2)]; exact want_all O
theorem playT_same {ev ev' : Nat → Ev} (h : ∀ j, evOk (ev j) = evOk (ev' j) ∧ (ev j).s = (ev' j).s ∧ ∀ b : Bo, b.deed (ev j) = b.deed (ev' j)) : ∀ (k i : Nat) (s : Ga), playT ev 1048576 k i s = playT ev' 1048576 k i s
  | 0, i, s => rfl
  | k + 1, i, s => by
    obtain ⟨h1, h2, h3⟩ := h i
    have h4 := (h (i - 1)).2.1
    unfold playT
    rw [h1, h2, h3, h4, playT_same h k (i + 1)]
/-- A whistle in the place of an event. -/
def whF (l : Nat → Nat → Int) (i x c : Nat) : Int := if x = i then (if c = 0 then 1 else if c = 1 then l i 1 else 0) else l x c
theorem stop_pl {n i : Nat} {l : Nat → Nat → Int} (hn : n ≤ 256) (hE : erA (evN l) n = 0) (hi : i < n) (hk : l i 0 = 2) : (plT n (setK l i)).2.2 = 0 ∧ plT n (whF l i) = plT n (setK l i) := by
  constructor
  · have := tm_play (ev := evN l) (ev' := evN (setK l i)) (fun j => ⟨by simp [evN, setK], by
      by_cases e : j = i
      · right; subst e; simp [evN, setK, hk]
      · left; simp [evN, setK, e]⟩) n 0 G0 G0 ⟨rfl, rfl, rfl, rfl⟩ hE
    rw [plT_er hn]
    exact this
  · have : ∀ k x s, playT (evN (whF l i)) 1048576 k x s = playT (evN (setK l i)) 1048576 k x s := playT_same (fun j => by
      by_cases e : j = i
      · subst e
        refine ⟨?_, by simp [evN, setK, whF], fun b => ?_⟩
        · simp [evN, setK, whF, evOk, in3]
        · simp [evN, setK, whF, Bo.deed]
      · have : evN (whF l i) j = evN (setK l i) j := by simp [evN, setK, whF, e]
        rw [this]
        exact ⟨rfl, rfl, fun _ => rfl⟩)
    unfold plT
    rw [this]
theorem goal_facts {n i : Nat} {l : Nat → Nat → Int} (hn : n ≤ 60) (hE : erA (evN l) n = 0) (hi : i < n) (hk : l i 0 = 2) : ∃ P : Ga, agT i l (l i 1) = (P, 0) ∧ P.b.Ok ∧ P.b.Sm ∧ P.b.run = true ∧ (l i 2 = 0 ∨ l i 2 = 1) ∧ plT (i + 1) l = ((P.b.goal (l i 2)).1, ((i + 1 : Nat) : Int), 0) := by
  have h1 := erA_le hE (i + 1) (by omega)
  obtain ⟨a1, a2, a3, a4⟩ := stA_succ h1
  have he := evOk_iff.1 a1
  have hs : 0 ≤ l i 1 ∧ l i 1 ≤ 1048576 := he.2.1
  have ht : l i 0 < 2 ∨ (0 ≤ l i 2 ∧ l i 2 ≤ 1) := he.2.2.1
  have ha := agT_sec (l := l) (to := l i 1) (by omega) (erA_le hE i (by omega)) hs.1 hs.2 (fun j hj => ev_mono hE i hi j (by omega))
  have hsm := agT_sm i l (l i 1)
  rw [ha] at hsm
  have hd : ∀ b : Bo, b.deed (evN l i) = b.goal (l i 2) := fun b => by
    unfold Bo.deed
    rw [if_neg (show ¬ (evN l i).k = 0 by show ¬ l i 0 = 0; omega), if_neg (show ¬ (evN l i).k = 1 by show ¬ l i 0 = 1; omega), if_pos (show (evN l i).k = 2 from hk)]
    rfl
  refine ⟨_, ha, (passTF_ok hs (stA_ok (ev := evN l) (k := i) (by omega))).b, hsm, ?_, by omega, ?_⟩
  · rw [hd] at a3
    have e : (evN l i).s = l i 1 := rfl
    rw [e] at a3
    generalize (passTF (stA (evN l) i) (l i 1)).b = A at a3 ⊢
    cases hr : A.run
    · unfold Bo.goal at a3; rw [if_neg (by simp [hr])] at a3; simp at a3
    · rfl
  · rw [plT_eq (by omega) h1, a4, hd]
    rfl
end Go.Eng
end

/- clock: ClockGoals. -/
section
namespace Go.Eng
open Go Go.RowKit Go.Proofs
set_option maxRecDepth 100000
set_option maxHeartbeats 4000000
attribute [local irreducible] OwnT DefS
theorem frz_cat0 (k : Nat) (h : HS) (l : Nat → Nat → Int) (A : Nat → Nat → SV) (a j : Nat) : frzF (k + 1) h (catF 0 A (fun i j => .int .i64 (l i j)) a j) = .int .i64 (l a j) := by
  unfold catF
  simp only [Nat.not_lt_zero, if_false, Nat.sub_zero]
  rfl
theorem frz_four (k : Nat) (h : HS) (a b c d : Int) (j : Nat) : frzF (k + 1) h (nth [.int .i64 a, .int .i64 b, .int .i64 c, .int .i64 d] j) = nth [.int .i64 a, .int .i64 b, .int .i64 c, .int .i64 d] j := by
  rw [frzF_nth]
  rfl
theorem wh_val {l : Nat → Nat → Int} {i x c : Nat} (hc : c < 4) : (if x = i ∧ 0 ≤ c ∧ c < 4 then nth [.int .i64 1, .int .i64 (l i 1), .int .i64 0, .int .i64 0] (c - 0) else .int .i64 (l x c)) = SV.int .i64 (whF l i x c) := by
  unfold whF
  by_cases q : x = i
  · rw [if_pos ⟨q, by omega, hc⟩, if_pos q]
    match c, hc with
    | 0, _ => rfl
    | 1, _ => rfl
    | 2, _ => rfl
    | 3, _ => rfl
  · rw [if_neg (fun r => q r.1), if_neg q]
theorem wh_int (n i : Nat) (l : Nat → Nat → Int) : (IntR n 4 fun x c => if x = i ∧ 0 ≤ c ∧ c < 4 then nth [.int .i64 1, .int .i64 (l i 1), .int .i64 0, .int .i64 0] (c - 0) else .int .i64 (l x c)) = True :=
  eq_true (fun x c _ hc => by dsimp only; rw [wh_val hc]; rfl)
theorem wh_pl (n i : Nat) (l : Nat → Nat → Int) : plT n (ivf fun x c => if x = i ∧ 0 ≤ c ∧ c < 4 then nth [.int .i64 1, .int .i64 (l i 1), .int .i64 0, .int .i64 0] (c - 0) else .int .i64 (l x c)) = plT n (whF l i) :=
  plT_congr (fun x c _ hc => by show iv (if x = i ∧ 0 ≤ c ∧ c < 4 then nth [.int .i64 1, .int .i64 (l i 1), .int .i64 0, .int .i64 0] (c - 0) else .int .i64 (l x c)) = _; rw [wh_val hc]; rfl)
def clockGoalsBase : BaseF := fun args => match args with
  | [.row n sz_l f_l] => some ((sz_l = 4 ∧ IntR n 4 f_l), .bool true)
  | _ => none
theorem clockGoals_eq (n : Nat) (sz_l : Nat) (f_l : Nat → Nat → SV) : clockGoalsBase [.row n sz_l f_l] = some ((sz_l = 4 ∧ IntR n 4 f_l), .bool true) := rfl
theorem clockGoals_base : Base Try.prog 8 clockGoalsBase := by
  intro args p v hq hp
  unfold clockGoalsBase at hq
  split at hq
  rotate_left
  · cases hq
  rename_i n sz_l f_l
  cases hq
  obtain ⟨rfl, i_l⟩ := hp
  refine base_of (C := cxn [] [(25, withoutBase)] [] [(11, aliveBase), (12, playBase), (14, atBase), (22, servedRBase), (20, sameBase), (27, penEqBase)] [(8, 10, p8_10), (8, 12, p8_12), (8, 15, p8_15)] none) (cxn_ok ⟨without_base, trivial⟩ trivial ⟨alive_base, play_base, at_base, servedR_base, same_base, penEq_base, trivial⟩) rfl (g := 8) (fn := Try.f8)
    (args' := [.row n 4 (rowF .i64 (ivf f_l))]) (fn_8) rfl 1000 (by
    simp only [BdL, Bd, and_self, and_true, true_and]
    exact (fun i j hi hj => by rw [i_l i j hi hj]; trivial)) ⟨SameD.int i_l, trivial⟩ ?_
  generalize ivf f_l = l
  simp only [rowF_eq]
  simp only [alive_eq, play_eq, at_eq, servedR_eq, same_eq, penEq_eq, without_eq, p8_10, p8_12, p8_15, boS, rowP, pl_pf, plR_plT, atR_agT, wiR_wiT, Try.f8, go_sem, ↓reduceIte, Nat.reduceAdd, Nat.reduceSub, Nat.reduceMul, Nat.reduceEqDiff, Nat.reduceLT, Nat.reduceLeDiff, Int.reduceToNat, Int.reduceLE, Int.reduceLT, Int.reduceEq, Int.reduceNeg, reduceCtorEq]
  refine spl_intro (fun e1 => trivial) (fun e1 => ?_)
  have hn : n ≤ 60 := by simp only [decide_eq_false_iff_not] at e1; omega
  refine ⟨by omega, spl_intro (fun e2 => trivial) (fun e2 => ?_)⟩
  rw [Bool.not_eq_false', decide_eq_true_eq] at e2
  have hE : erA (evN l) n = 0 := by rw [← plT_er (by omega)]; exact e2
  refine loop_ofH { i : Nat // i ≤ n } (fun i => [(43, .int .i64 (i.1 : Int)), (42, .int .i64 (n : Int)), (41, .row n 4 fun i j => .int .i64 (l i j)), (2, .bool false), (0, .row n 4 fun i j => .int .i64 (l i j))]) (fun h _ => h) (fun i => n - i.1) (fun _ => ⟨rfl, rfl⟩) ⟨0, by omega⟩ (by (apply sub_of <;> simp only [go_sem, ↓reduceIte, Nat.reduceAdd, Nat.reduceSub, Nat.reduceMul, Nat.reduceEqDiff, Nat.reduceLT, Nat.reduceLeDiff, Int.reduceToNat, Int.reduceLE, Int.reduceLT, Int.reduceEq, Int.reduceNeg, reduceCtorEq] <;> (try simp [catF]) <;> (try exact fun j _ => Bd_nth (by simp [BdL, Bd]) j) <;> (try exact bd_setL (by simp [bdAs, BdL, Bd])) <;> (try exact nestF_bd _ _ _ _ _ _ _ _ _))) ?_
  rintro ⟨i, hi⟩
  have wi : IntKind.i64.wrap ((i : Int) + 1) = ((i + 1 : Nat) : Int) := by rw [wrap_id (by omega) (by omega)]; omega
  simp only [wi, Int.toNat_natCast, alive_eq, play_eq, at_eq, servedR_eq, same_eq, penEq_eq, without_eq, p8_10, p8_12, p8_15, boS, rowP, pl_pf, plR_plT, atR_agT, wiR_wiT, Try.f8, go_sem, ↓reduceIte, Nat.reduceAdd, Nat.reduceSub, Nat.reduceMul, Nat.reduceEqDiff, Nat.reduceLT, Nat.reduceLeDiff, Int.reduceToNat, Int.reduceLE, Int.reduceLT, Int.reduceEq, Int.reduceNeg, reduceCtorEq]
  refine spl_intro (fun f1 => ?_) (fun f1 => trivial)
  simp only [decide_eq_true_eq] at f1
  refine ⟨by omega, spl_intro (fun f2 => ?_) (fun f2 => ?_)⟩
  · refine ⟨⟨i + 1, by omega⟩, by simp only []; omega, ?_⟩
    apply sub_of <;> simp only [wi, go_sem, ↓reduceIte, Nat.reduceAdd, Nat.reduceSub, Nat.reduceMul, Nat.reduceEqDiff, Nat.reduceLT, Nat.reduceLeDiff, Int.reduceToNat, Int.reduceLE, Int.reduceLT, Int.reduceEq, Int.reduceNeg, reduceCtorEq] <;> (try simp) <;> (try exact fun j _ => Bd_nth (by simp [BdL, Bd]) j) <;> (try exact bd_setL (by simp [bdAs, BdL, Bd])) <;> (try exact nestF_bd _ _ _ _ _ _ _ _ _)
  · simp only [Bool.not_eq_false', decide_eq_true_eq] at f2
    obtain ⟨P, p1, p2, p3, p4, p5, p6⟩ := goal_facts hn hE (by omega) f2
    refine ⟨⟨by kernel_rfl, by kernel_rfl⟩, ⟨by omega, by omega⟩, by omega, ⟨⟨by omega, by omega⟩, by omega⟩, ⟨by omega, by omega⟩, by omega, ⟨by kernel_rfl, by kernel_rfl⟩, ?_⟩
    have p3' := p3
    unfold Bo.Sm at p3'
    obtain ⟨st1, st2⟩ := stop_pl (by omega) hE (by omega) f2
    have hwi : wiT n l (i : Int) = ((plT n (setK l i)).1, 0) := by
      unfold wiT
      rw [if_neg (by rw [e2]; simp), if_neg (by rw [in3_iff.2 (by omega)]; simp), Int.toNat_natCast, if_neg (by simp [f2])]
    have hsm := plT_sm n (setK l i)
    unfold Bo.Sm at hsm
    rcases p5 with ht | ht
    · have hQ : plT (i + 1) l = (⟨P.b.per, P.b.pl, false, P.b.g0 + 1, P.b.g1, P.b.p0, (if stren P.b.p1 ≥ stren P.b.p0 then P.b.p1 else goalL P.b.p1), P.b.m0, P.b.m1⟩, ((i + 1 : Nat) : Int), 0) := by
        rw [p6, ht]
        unfold Bo.goal
        rw [if_pos p4, if_pos rfl]
      have wg : IntKind.i64.wrap (P.b.g0 + 1) = P.b.g0 + 1 := wrap_id (by have := p2.g0; omega) (by have := p2.g0; omega)
      have w1 : IntKind.i64.wrap (1 - 0) = 1 := by decide
      simp only [ht, p1, hQ, wg, w1, pl_pf, alive_eq, play_eq, at_eq, servedR_eq, same_eq, penEq_eq, without_eq, p8_10, p8_12, p8_15, boS, rowP, pl_pf, plR_plT, atR_agT, wiR_wiT, Try.f8, go_sem, ↓reduceIte, Nat.reduceAdd, Nat.reduceSub, Nat.reduceMul, Nat.reduceEqDiff, Nat.reduceLT, Nat.reduceLeDiff, Int.reduceToNat, Int.reduceLE, Int.reduceLT, Int.reduceEq, Int.reduceNeg, reduceCtorEq]
      refine ⟨by omega, by omega, by omega, by omega, by omega, by omega, by omega, ⟨by kernel_rfl, by kernel_rfl⟩, by omega, by omega, by omega, by omega, ?_⟩
      refine loop_ofH { k : Nat // k ≤ nS P.b.p1 } (fun k => [(138, .int .i64 (k.1 : Int)), (137, .int .i64 (nS P.b.p1 : Int)), (136, .row (nS P.b.p1) 1 fun i _ => .int .i64 (wS P.b.p1 i)), (16, .int .i64 (endF P.b.p1 k.1)), (15, .row (nS P.b.p1) 1 fun i _ => .int .i64 (wS P.b.p1 i)), (14, .row (nS P.b.p0) 1 fun i _ => .int .i64 (wS P.b.p0 i)), (13, .int .i64 1), (10, .ptr 3 0), (8, .ptr 2 0), (6, .int .i64 (i : Int)), (7, .ptr 1 0), (43, .int .i64 (i : Int)), (42, .int .i64 (n : Int)), (41, .row n 4 fun i j => .int .i64 (l i j)), (2, .bool false), (0, .row n 4 fun i j => .int .i64 (l i j))]) (fun h _ => h) (fun k => nS P.b.p1 - k.1) (fun _ => ⟨rfl, rfl⟩) ⟨0, by omega⟩ (by simp only [endF]; (apply sub_of <;> simp only [go_sem, ↓reduceIte, Nat.reduceAdd, Nat.reduceSub, Nat.reduceMul, Nat.reduceEqDiff, Nat.reduceLT, Nat.reduceLeDiff, Int.reduceToNat, Int.reduceLE, Int.reduceLT, Int.reduceEq, Int.reduceNeg, reduceCtorEq] <;> (try simp [catF]) <;> (try exact fun j _ => Bd_nth (by simp [BdL, Bd]) j) <;> (try exact bd_setL (by simp [bdAs, BdL, Bd])) <;> (try exact nestF_bd _ _ _ _ _ _ _ _ _))) ?_
      rintro ⟨k, hk⟩
      have hns : nS P.b.p1 ≤ 2 := by unfold nS; split; omega; split <;> omega
      have wk : IntKind.i64.wrap ((k : Int) + 1) = ((k + 1 : Nat) : Int) := by rw [wrap_id (by omega) (by omega)]; omega
      simp only [ht, wk, Int.toNat_natCast, alive_eq, play_eq, at_eq, servedR_eq, same_eq, penEq_eq, without_eq, p8_10, p8_12, p8_15, boS, rowP, pl_pf, plR_plT, atR_agT, wiR_wiT, Try.f8, go_sem, ↓reduceIte, Nat.reduceAdd, Nat.reduceSub, Nat.reduceMul, Nat.reduceEqDiff, Nat.reduceLT, Nat.reduceLeDiff, Int.reduceToNat, Int.reduceLE, Int.reduceLT, Int.reduceEq, Int.reduceNeg, reduceCtorEq]
      refine spl_intro (fun g1 => ⟨?_, ?_⟩) (fun g1 => ?_)
      · simp only [decide_eq_true_eq] at g1; omega
      · simp only [decide_eq_true_eq] at g1
        have hw := wS_lt (l := P.b.p1) (k := k) (by omega)
        refine spl_intro (fun g2 => ⟨by omega, hw, spl_intro (fun g3 => ?_) (fun g3 => ?_)⟩) (fun g2 => ?_)
        all_goals
          refine ⟨⟨k + 1, by omega⟩, by simp only []; omega, ?_⟩
          simp only [decide_eq_true_eq, decide_eq_false_iff_not] at g2
          try simp only [decide_eq_true_eq, decide_eq_false_iff_not] at g3
        · have ee : endF P.b.p1 (k + 1) = wS P.b.p1 k := by rw [endF, if_pos ⟨g2, g3⟩]
          apply sub_of <;> simp only [wk, ee, go_sem, ↓reduceIte, Nat.reduceAdd, Nat.reduceSub, Nat.reduceMul, Nat.reduceEqDiff, Nat.reduceLT, Nat.reduceLeDiff, Int.reduceToNat, Int.reduceLE, Int.reduceLT, Int.reduceEq, Int.reduceNeg, reduceCtorEq] <;> (try simp) <;> (try exact fun j _ => Bd_nth (by simp [BdL, Bd]) j) <;> (try exact bd_setL (by simp [bdAs, BdL, Bd])) <;> (try exact nestF_bd _ _ _ _ _ _ _ _ _)
        · have ee : endF P.b.p1 (k + 1) = endF P.b.p1 k := by rw [endF, if_neg (fun q => g3 q.2)]
          apply sub_of <;> simp only [wk, ee, go_sem, ↓reduceIte, Nat.reduceAdd, Nat.reduceSub, Nat.reduceMul, Nat.reduceEqDiff, Nat.reduceLT, Nat.reduceLeDiff, Int.reduceToNat, Int.reduceLE, Int.reduceLT, Int.reduceEq, Int.reduceNeg, reduceCtorEq] <;> (try simp) <;> (try exact fun j _ => Bd_nth (by simp [BdL, Bd]) j) <;> (try exact bd_setL (by simp [bdAs, BdL, Bd])) <;> (try exact nestF_bd _ _ _ _ _ _ _ _ _)
        · have ee : endF P.b.p1 (k + 1) = endF P.b.p1 k := by rw [endF, if_neg (fun q => g2 q.1)]
          apply sub_of <;> simp only [wk, ee, go_sem, ↓reduceIte, Nat.reduceAdd, Nat.reduceSub, Nat.reduceMul, Nat.reduceEqDiff, Nat.reduceLT, Nat.reduceLeDiff, Int.reduceToNat, Int.reduceLE, Int.reduceLT, Int.reduceEq, Int.reduceNeg, reduceCtorEq] <;> (try simp) <;> (try exact fun j _ => Bd_nth (by simp [BdL, Bd]) j) <;> (try exact bd_setL (by simp [bdAs, BdL, Bd])) <;> (try exact nestF_bd _ _ _ _ _ _ _ _ _)
      · simp only [decide_eq_false_iff_not] at g1
        obtain rfl : k = nS P.b.p1 := by omega
        refine spl_intro (fun g2 => ⟨by omega, ?_⟩) (fun g2 => ⟨by omega, ?_⟩)
        all_goals
          simp only [decide_eq_true_eq, decide_eq_false_iff_not] at g2
        · have hfin : (if stren P.b.p1 ≥ stren P.b.p0 then P.b.p1 else goalL P.b.p1) = wantF P.b.p1 (-1) P.b.p1.length := by
            rw [want_all, if_pos (by unfold stren; omega)]
          refine loop_ofH { x : Nat × Nat // x.1 ≤ P.b.p1.length } (fun x => [(167, .int .i64 (x.1.1 : Int)), (166, .int .i64 (P.b.p1.length : Int)), (165, .row P.b.p1.length 3 fun i j => .int .i64 (pf P.b.p1 i j)), (19, .vec 12 x.1.2), (16, .int .i64 (-1)), (13, .int .i64 1), (10, .ptr 3 0), (8, .ptr 2 0), (6, .int .i64 (i : Int)), (7, .ptr 1 0), (43, .int .i64 (i : Int)), (42, .int .i64 (n : Int)), (41, .row n 4 fun i j => .int .i64 (l i j)), (2, .bool false), (0, .row n 4 fun i j => .int .i64 (l i j))]) (fun h x => ⟨h.blks, setV h.vecs 12 (.live x.1.2 55 3 (wantF P.b.p1 (-1) x.1.1).length (fun a j => .int .i64 (pf (wantF P.b.p1 (-1) x.1.1) a j)))⟩) (fun x => P.b.p1.length - x.1.1) (fun _ => ⟨rfl, rfl⟩) ⟨(0, 0), by omega⟩ (by simp only [wantF, List.length_nil]; (apply sub_of <;> simp only [go_sem, ↓reduceIte, Nat.reduceAdd, Nat.reduceSub, Nat.reduceMul, Nat.reduceEqDiff, Nat.reduceLT, Nat.reduceLeDiff, Int.reduceToNat, Int.reduceLE, Int.reduceLT, Int.reduceEq, Int.reduceNeg, reduceCtorEq] <;> (try simp [catF]) <;> (try exact fun j _ => Bd_nth (by simp [BdL, Bd]) j) <;> (try exact bd_setL (by simp [bdAs, BdL, Bd])) <;> (try exact nestF_bd _ _ _ _ _ _ _ _ _))) ?_
          rintro ⟨⟨x, v⟩, hx⟩
          simp only at hx
          have hwl := wantF_len P.b.p1 (-1) x
          have wx : IntKind.i64.wrap ((x : Int) + 1) = ((x + 1 : Nat) : Int) := by rw [wrap_id (by omega) (by omega)]; omega
          simp only [ht, wx, hwi, st1, st2, frz_cat0, frz_four, wh_int, wh_pl, Int.toNat_natCast, alive_eq, play_eq, at_eq, servedR_eq, same_eq, penEq_eq, without_eq, p8_10, p8_12, p8_15, boS, rowP, pl_pf, plR_plT, atR_agT, wiR_wiT, Try.f8, go_sem, ↓reduceIte, Nat.reduceAdd, Nat.reduceSub, Nat.reduceMul, Nat.reduceEqDiff, Nat.reduceLT, Nat.reduceLeDiff, Int.reduceToNat, Int.reduceLE, Int.reduceLT, Int.reduceEq, Int.reduceNeg, reduceCtorEq]
          refine spl_intro (fun y1 => ?_) (fun y1 => ?_)
          · simp only [decide_eq_true_eq] at y1
            refine ⟨⟨by omega, by omega⟩, ⟨by omega, by omega⟩, ?_⟩
            have k2 : wantF P.b.p1 (-1) (x + 1) = wantF P.b.p1 (-1) x ++ [⟨pf P.b.p1 x 0, pf P.b.p1 x 1, pf P.b.p1 x 2⟩] := by rw [wantF, if_neg (by omega)]; rfl
            refine ⟨⟨(x + 1, v + 1), by omega⟩, by simp only []; omega, ?_⟩
            apply sub_of <;> simp only [wx, k2, go_sem, ↓reduceIte, Nat.reduceAdd, Nat.reduceSub, Nat.reduceMul, Nat.reduceEqDiff, Nat.reduceLT, Nat.reduceLeDiff, Int.reduceToNat, Int.reduceLE, Int.reduceLT, Int.reduceEq, Int.reduceNeg, reduceCtorEq] <;> (try simp) <;> (try exact fun j _ => Bd_nth (by simp [BdL, Bd]) j) <;> (try exact bd_setL (by simp [bdAs, BdL, Bd])) <;> (try exact nestF_bd _ _ _ _ _ _ _ _ _)
            exact (isPen_snoc (isPen_id _)).2
          · simp only [decide_eq_false_iff_not] at y1
            obtain rfl : x = P.b.p1.length := by omega
            rw [hfin]
            simp only [pl_pf]
            refine ⟨by omega, by omega, spl_no (by simp) ⟨by omega, ⟨by omega, by omega⟩, ⟨by omega, by omega⟩, by omega, by omega, ⟨by omega, by omega, by omega, by omega⟩, ⟨⟨i + 1, by omega⟩, by simp only []; omega, ?_⟩⟩⟩
            apply sub_of <;> simp only [wi, go_sem, ↓reduceIte, Nat.reduceAdd, Nat.reduceSub, Nat.reduceMul, Nat.reduceEqDiff, Nat.reduceLT, Nat.reduceLeDiff, Int.reduceToNat, Int.reduceLE, Int.reduceLT, Int.reduceEq, Int.reduceNeg, reduceCtorEq] <;> (try simp) <;> (try exact fun j _ => Bd_nth (by simp [BdL, Bd]) j) <;> (try exact bd_setL (by simp [bdAs, BdL, Bd])) <;> (try exact nestF_bd _ _ _ _ _ _ _ _ _)
        · have hfin : (if stren P.b.p1 ≥ stren P.b.p0 then P.b.p1 else goalL P.b.p1) = wantF P.b.p1 (endF P.b.p1 (nS P.b.p1)) P.b.p1.length := by
            rw [end_goal, if_neg (by unfold stren; omega)]
          refine loop_ofH { x : Nat × Nat // x.1 ≤ P.b.p1.length } (fun x => [(167, .int .i64 (x.1.1 : Int)), (166, .int .i64 (P.b.p1.length : Int)), (165, .row P.b.p1.length 3 fun i j => .int .i64 (pf P.b.p1 i j)), (19, .vec 12 x.1.2), (16, .int .i64 (endF P.b.p1 (nS P.b.p1))), (13, .int .i64 1), (10, .ptr 3 0), (8, .ptr 2 0), (6, .int .i64 (i : Int)), (7, .ptr 1 0), (43, .int .i64 (i : Int)), (42, .int .i64 (n : Int)), (41, .row n 4 fun i j => .int .i64 (l i j)), (2, .bool false), (0, .row n 4 fun i j => .int .i64 (l i j))]) (fun h x => ⟨h.blks, setV h.vecs 12 (.live x.1.2 55 3 (wantF P.b.p1 (endF P.b.p1 (nS P.b.p1)) x.1.1).length (fun a j => .int .i64 (pf (wantF P.b.p1 (endF P.b.p1 (nS P.b.p1)) x.1.1) a j)))⟩) (fun x => P.b.p1.length - x.1.1) (fun _ => ⟨rfl, rfl⟩) ⟨(0, 0), by omega⟩ (by simp only [wantF, List.length_nil]; (apply sub_of <;> simp only [go_sem, ↓reduceIte, Nat.reduceAdd, Nat.reduceSub, Nat.reduceMul, Nat.reduceEqDiff, Nat.reduceLT, Nat.reduceLeDiff, Int.reduceToNat, Int.reduceLE, Int.reduceLT, Int.reduceEq, Int.reduceNeg, reduceCtorEq] <;> (try simp [catF]) <;> (try exact fun j _ => Bd_nth (by simp [BdL, Bd]) j) <;> (try exact bd_setL (by simp [bdAs, BdL, Bd])) <;> (try exact nestF_bd _ _ _ _ _ _ _ _ _))) ?_
          rintro ⟨⟨x, v⟩, hx⟩
          simp only at hx
          have hwl := wantF_len P.b.p1 (endF P.b.p1 (nS P.b.p1)) x
          have wx : IntKind.i64.wrap ((x : Int) + 1) = ((x + 1 : Nat) : Int) := by rw [wrap_id (by omega) (by omega)]; omega
          simp only [ht, wx, hwi, st1, st2, frz_cat0, frz_four, wh_int, wh_pl, Int.toNat_natCast, alive_eq, play_eq, at_eq, servedR_eq, same_eq, penEq_eq, without_eq, p8_10, p8_12, p8_15, boS, rowP, pl_pf, plR_plT, atR_agT, wiR_wiT, Try.f8, go_sem, ↓reduceIte, Nat.reduceAdd, Nat.reduceSub, Nat.reduceMul, Nat.reduceEqDiff, Nat.reduceLT, Nat.reduceLeDiff, Int.reduceToNat, Int.reduceLE, Int.reduceLT, Int.reduceEq, Int.reduceNeg, reduceCtorEq]
          refine spl_intro (fun y1 => ?_) (fun y1 => ?_)
          · simp only [decide_eq_true_eq] at y1
            refine ⟨⟨by omega, by omega⟩, spl_intro (fun y2 => ⟨⟨by omega, by omega⟩, ?_⟩) (fun y2 => ?_)⟩
            · simp only [Bool.not_eq_true', decide_eq_false_iff_not] at y2
              have k2 : wantF P.b.p1 (endF P.b.p1 (nS P.b.p1)) (x + 1) = wantF P.b.p1 (endF P.b.p1 (nS P.b.p1)) x ++ [⟨pf P.b.p1 x 0, pf P.b.p1 x 1, pf P.b.p1 x 2⟩] := by rw [wantF, if_neg y2]; rfl
              refine ⟨⟨(x + 1, v + 1), by omega⟩, by simp only []; omega, ?_⟩
              apply sub_of <;> simp only [wx, k2, go_sem, ↓reduceIte, Nat.reduceAdd, Nat.reduceSub, Nat.reduceMul, Nat.reduceEqDiff, Nat.reduceLT, Nat.reduceLeDiff, Int.reduceToNat, Int.reduceLE, Int.reduceLT, Int.reduceEq, Int.reduceNeg, reduceCtorEq] <;> (try simp) <;> (try exact fun j _ => Bd_nth (by simp [BdL, Bd]) j) <;> (try exact bd_setL (by simp [bdAs, BdL, Bd])) <;> (try exact nestF_bd _ _ _ _ _ _ _ _ _)
              exact (isPen_snoc (isPen_id _)).2
            · simp only [Bool.not_eq_false', decide_eq_true_eq] at y2
              have k2 : wantF P.b.p1 (endF P.b.p1 (nS P.b.p1)) (x + 1) = wantF P.b.p1 (endF P.b.p1 (nS P.b.p1)) x := by rw [wantF, if_pos y2]
              refine ⟨⟨(x + 1, v), by omega⟩, by simp only []; omega, ?_⟩
              apply sub_of <;> simp only [wx, k2, go_sem, ↓reduceIte, Nat.reduceAdd, Nat.reduceSub, Nat.reduceMul, Nat.reduceEqDiff, Nat.reduceLT, Nat.reduceLeDiff, Int.reduceToNat, Int.reduceLE, Int.reduceLT, Int.reduceEq, Int.reduceNeg, reduceCtorEq] <;> (try simp) <;> (try exact fun j _ => Bd_nth (by simp [BdL, Bd]) j) <;> (try exact bd_setL (by simp [bdAs, BdL, Bd])) <;> (try exact nestF_bd _ _ _ _ _ _ _ _ _)
          · simp only [decide_eq_false_iff_not] at y1
            obtain rfl : x = P.b.p1.length := by omega
            rw [hfin]
            simp only [pl_pf]
            refine ⟨by omega, by omega, spl_no (by simp) ⟨by omega, ⟨by omega, by omega⟩, ⟨by omega, by omega⟩, by omega, by omega, ⟨by omega, by omega, by omega, by omega⟩, ⟨⟨i + 1, by omega⟩, by simp only []; omega, ?_⟩⟩⟩
            apply sub_of <;> simp only [wi, go_sem, ↓reduceIte, Nat.reduceAdd, Nat.reduceSub, Nat.reduceMul, Nat.reduceEqDiff, Nat.reduceLT, Nat.reduceLeDiff, Int.reduceToNat, Int.reduceLE, Int.reduceLT, Int.reduceEq, Int.reduceNeg, reduceCtorEq] <;> (try simp) <;> (try exact fun j _ => Bd_nth (by simp [BdL, Bd]) j) <;> (try exact bd_setL (by simp [bdAs, BdL, Bd])) <;> (try exact nestF_bd _ _ _ _ _ _ _ _ _)
    · have hQ : plT (i + 1) l = (⟨P.b.per, P.b.pl, false, P.b.g0, P.b.g1 + 1, (if stren P.b.p0 ≥ stren P.b.p1 then P.b.p0 else goalL P.b.p0), P.b.p1, P.b.m0, P.b.m1⟩, ((i + 1 : Nat) : Int), 0) := by
        rw [p6, ht]
        unfold Bo.goal
        rw [if_pos p4, if_neg (by omega)]
      have wg : IntKind.i64.wrap (P.b.g1 + 1) = P.b.g1 + 1 := wrap_id (by have := p2.g1; omega) (by have := p2.g1; omega)
      have w1 : IntKind.i64.wrap (1 - 1) = 0 := by decide
      simp only [ht, p1, hQ, wg, w1, pl_pf, alive_eq, play_eq, at_eq, servedR_eq, same_eq, penEq_eq, without_eq, p8_10, p8_12, p8_15, boS, rowP, pl_pf, plR_plT, atR_agT, wiR_wiT, Try.f8, go_sem, ↓reduceIte, Nat.reduceAdd, Nat.reduceSub, Nat.reduceMul, Nat.reduceEqDiff, Nat.reduceLT, Nat.reduceLeDiff, Int.reduceToNat, Int.reduceLE, Int.reduceLT, Int.reduceEq, Int.reduceNeg, reduceCtorEq]
      refine ⟨by omega, by omega, by omega, by omega, by omega, by omega, by omega, ⟨by kernel_rfl, by kernel_rfl⟩, by omega, by omega, by omega, by omega, ?_⟩
      refine loop_ofH { k : Nat // k ≤ nS P.b.p0 } (fun k => [(138, .int .i64 (k.1 : Int)), (137, .int .i64 (nS P.b.p0 : Int)), (136, .row (nS P.b.p0) 1 fun i _ => .int .i64 (wS P.b.p0 i)), (16, .int .i64 (endF P.b.p0 k.1)), (15, .row (nS P.b.p0) 1 fun i _ => .int .i64 (wS P.b.p0 i)), (14, .row (nS P.b.p1) 1 fun i _ => .int .i64 (wS P.b.p1 i)), (13, .int .i64 0), (10, .ptr 3 0), (8, .ptr 2 0), (6, .int .i64 (i : Int)), (7, .ptr 1 0), (43, .int .i64 (i : Int)), (42, .int .i64 (n : Int)), (41, .row n 4 fun i j => .int .i64 (l i j)), (2, .bool false), (0, .row n 4 fun i j => .int .i64 (l i j))]) (fun h _ => h) (fun k => nS P.b.p0 - k.1) (fun _ => ⟨rfl, rfl⟩) ⟨0, by omega⟩ (by simp only [endF]; (apply sub_of <;> simp only [go_sem, ↓reduceIte, Nat.reduceAdd, Nat.reduceSub, Nat.reduceMul, Nat.reduceEqDiff, Nat.reduceLT, Nat.reduceLeDiff, Int.reduceToNat, Int.reduceLE, Int.reduceLT, Int.reduceEq, Int.reduceNeg, reduceCtorEq] <;> (try simp [catF]) <;> (try exact fun j _ => Bd_nth (by simp [BdL, Bd]) j) <;> (try exact bd_setL (by simp [bdAs, BdL, Bd])) <;> (try exact nestF_bd _ _ _ _ _ _ _ _ _))) ?_
      rintro ⟨k, hk⟩
      have hns : nS P.b.p0 ≤ 2 := by unfold nS; split; omega; split <;> omega
      have wk : IntKind.i64.wrap ((k : Int) + 1) = ((k + 1 : Nat) : Int) := by rw [wrap_id (by omega) (by omega)]; omega
      simp only [ht, wk, Int.toNat_natCast, alive_eq, play_eq, at_eq, servedR_eq, same_eq, penEq_eq, without_eq, p8_10, p8_12, p8_15, boS, rowP, pl_pf, plR_plT, atR_agT, wiR_wiT, Try.f8, go_sem, ↓reduceIte, Nat.reduceAdd, Nat.reduceSub, Nat.reduceMul, Nat.reduceEqDiff, Nat.reduceLT, Nat.reduceLeDiff, Int.reduceToNat, Int.reduceLE, Int.reduceLT, Int.reduceEq, Int.reduceNeg, reduceCtorEq]
      refine spl_intro (fun g1 => ⟨?_, ?_⟩) (fun g1 => ?_)
      · simp only [decide_eq_true_eq] at g1; omega
      · simp only [decide_eq_true_eq] at g1
        have hw := wS_lt (l := P.b.p0) (k := k) (by omega)
        refine spl_intro (fun g2 => ⟨by omega, hw, spl_intro (fun g3 => ?_) (fun g3 => ?_)⟩) (fun g2 => ?_)
        all_goals
          refine ⟨⟨k + 1, by omega⟩, by simp only []; omega, ?_⟩
          simp only [decide_eq_true_eq, decide_eq_false_iff_not] at g2
          try simp only [decide_eq_true_eq, decide_eq_false_iff_not] at g3
        · have ee : endF P.b.p0 (k + 1) = wS P.b.p0 k := by rw [endF, if_pos ⟨g2, g3⟩]
          apply sub_of <;> simp only [wk, ee, go_sem, ↓reduceIte, Nat.reduceAdd, Nat.reduceSub, Nat.reduceMul, Nat.reduceEqDiff, Nat.reduceLT, Nat.reduceLeDiff, Int.reduceToNat, Int.reduceLE, Int.reduceLT, Int.reduceEq, Int.reduceNeg, reduceCtorEq] <;> (try simp) <;> (try exact fun j _ => Bd_nth (by simp [BdL, Bd]) j) <;> (try exact bd_setL (by simp [bdAs, BdL, Bd])) <;> (try exact nestF_bd _ _ _ _ _ _ _ _ _)
        · have ee : endF P.b.p0 (k + 1) = endF P.b.p0 k := by rw [endF, if_neg (fun q => g3 q.2)]
          apply sub_of <;> simp only [wk, ee, go_sem, ↓reduceIte, Nat.reduceAdd, Nat.reduceSub, Nat.reduceMul, Nat.reduceEqDiff, Nat.reduceLT, Nat.reduceLeDiff, Int.reduceToNat, Int.reduceLE, Int.reduceLT, Int.reduceEq, Int.reduceNeg, reduceCtorEq] <;> (try simp) <;> (try exact fun j _ => Bd_nth (by simp [BdL, Bd]) j) <;> (try exact bd_setL (by simp [bdAs, BdL, Bd])) <;> (try exact nestF_bd _ _ _ _ _ _ _ _ _)
        · have ee : endF P.b.p0 (k + 1) = endF P.b.p0 k := by rw [endF, if_neg (fun q => g2 q.1)]
          apply sub_of <;> simp only [wk, ee, go_sem, ↓reduceIte, Nat.reduceAdd, Nat.reduceSub, Nat.reduceMul, Nat.reduceEqDiff, Nat.reduceLT, Nat.reduceLeDiff, Int.reduceToNat, Int.reduceLE, Int.reduceLT, Int.reduceEq, Int.reduceNeg, reduceCtorEq] <;> (try simp) <;> (try exact fun j _ => Bd_nth (by simp [BdL, Bd]) j) <;> (try exact bd_setL (by simp [bdAs, BdL, Bd])) <;> (try exact nestF_bd _ _ _ _ _ _ _ _ _)
      · simp only [decide_eq_false_iff_not] at g1
        obtain rfl : k = nS P.b.p0 := by omega
        refine spl_intro (fun g2 => ⟨by omega, ?_⟩) (fun g2 => ⟨by omega, ?_⟩)
        all_goals
          simp only [decide_eq_true_eq, decide_eq_false_iff_not] at g2
        · have hfin : (if stren P.b.p0 ≥ stren P.b.p1 then P.b.p0 else goalL P.b.p0) = wantF P.b.p0 (-1) P.b.p0.length := by
            rw [want_all, if_pos (by unfold stren; omega)]
          refine loop_ofH { x : Nat × Nat // x.1 ≤ P.b.p0.length } (fun x => [(167, .int .i64 (x.1.1 : Int)), (166, .int .i64 (P.b.p0.length : Int)), (165, .row P.b.p0.length 3 fun i j => .int .i64 (pf P.b.p0 i j)), (19, .vec 12 x.1.2), (16, .int .i64 (-1)), (13, .int .i64 0), (10, .ptr 3 0), (8, .ptr 2 0), (6, .int .i64 (i : Int)), (7, .ptr 1 0), (43, .int .i64 (i : Int)), (42, .int .i64 (n : Int)), (41, .row n 4 fun i j => .int .i64 (l i j)), (2, .bool false), (0, .row n 4 fun i j => .int .i64 (l i j))]) (fun h x => ⟨h.blks, setV h.vecs 12 (.live x.1.2 55 3 (wantF P.b.p0 (-1) x.1.1).length (fun a j => .int .i64 (pf (wantF P.b.p0 (-1) x.1.1) a j)))⟩) (fun x => P.b.p0.length - x.1.1) (fun _ => ⟨rfl, rfl⟩) ⟨(0, 0), by omega⟩ (by simp only [wantF, List.length_nil]; (apply sub_of <;> simp only [go_sem, ↓reduceIte, Nat.reduceAdd, Nat.reduceSub, Nat.reduceMul, Nat.reduceEqDiff, Nat.reduceLT, Nat.reduceLeDiff, Int.reduceToNat, Int.reduceLE, Int.reduceLT, Int.reduceEq, Int.reduceNeg, reduceCtorEq] <;> (try simp [catF]) <;> (try exact fun j _ => Bd_nth (by simp [BdL, Bd]) j) <;> (try exact bd_setL (by simp [bdAs, BdL, Bd])) <;> (try exact nestF_bd _ _ _ _ _ _ _ _ _))) ?_
          rintro ⟨⟨x, v⟩, hx⟩
          simp only at hx
          have hwl := wantF_len P.b.p0 (-1) x
          have wx : IntKind.i64.wrap ((x : Int) + 1) = ((x + 1 : Nat) : Int) := by rw [wrap_id (by omega) (by omega)]; omega
          simp only [ht, wx, hwi, st1, st2, frz_cat0, frz_four, wh_int, wh_pl, Int.toNat_natCast, alive_eq, play_eq, at_eq, servedR_eq, same_eq, penEq_eq, without_eq, p8_10, p8_12, p8_15, boS, rowP, pl_pf, plR_plT, atR_agT, wiR_wiT, Try.f8, go_sem, ↓reduceIte, Nat.reduceAdd, Nat.reduceSub, Nat.reduceMul, Nat.reduceEqDiff, Nat.reduceLT, Nat.reduceLeDiff, Int.reduceToNat, Int.reduceLE, Int.reduceLT, Int.reduceEq, Int.reduceNeg, reduceCtorEq]
          refine spl_intro (fun y1 => ?_) (fun y1 => ?_)
          · simp only [decide_eq_true_eq] at y1
            refine ⟨⟨by omega, by omega⟩, ⟨by omega, by omega⟩, ?_⟩
            have k2 : wantF P.b.p0 (-1) (x + 1) = wantF P.b.p0 (-1) x ++ [⟨pf P.b.p0 x 0, pf P.b.p0 x 1, pf P.b.p0 x 2⟩] := by rw [wantF, if_neg (by omega)]; rfl
            refine ⟨⟨(x + 1, v + 1), by omega⟩, by simp only []; omega, ?_⟩
            apply sub_of <;> simp only [wx, k2, go_sem, ↓reduceIte, Nat.reduceAdd, Nat.reduceSub, Nat.reduceMul, Nat.reduceEqDiff, Nat.reduceLT, Nat.reduceLeDiff, Int.reduceToNat, Int.reduceLE, Int.reduceLT, Int.reduceEq, Int.reduceNeg, reduceCtorEq] <;> (try simp) <;> (try exact fun j _ => Bd_nth (by simp [BdL, Bd]) j) <;> (try exact bd_setL (by simp [bdAs, BdL, Bd])) <;> (try exact nestF_bd _ _ _ _ _ _ _ _ _)
            exact (isPen_snoc (isPen_id _)).2
          · simp only [decide_eq_false_iff_not] at y1
            obtain rfl : x = P.b.p0.length := by omega
            rw [hfin]
            simp only [pl_pf]
            refine ⟨by omega, by omega, spl_no (by simp) ⟨by omega, ⟨by omega, by omega⟩, ⟨by omega, by omega⟩, by omega, by omega, ⟨by omega, by omega, by omega, by omega⟩, ⟨⟨i + 1, by omega⟩, by simp only []; omega, ?_⟩⟩⟩
            apply sub_of <;> simp only [wi, go_sem, ↓reduceIte, Nat.reduceAdd, Nat.reduceSub, Nat.reduceMul, Nat.reduceEqDiff, Nat.reduceLT, Nat.reduceLeDiff, Int.reduceToNat, Int.reduceLE, Int.reduceLT, Int.reduceEq, Int.reduceNeg, reduceCtorEq] <;> (try simp) <;> (try exact fun j _ => Bd_nth (by simp [BdL, Bd]) j) <;> (try exact bd_setL (by simp [bdAs, BdL, Bd])) <;> (try exact nestF_bd _ _ _ _ _ _ _ _ _)
        · have hfin : (if stren P.b.p0 ≥ stren P.b.p1 then P.b.p0 else goalL P.b.p0) = wantF P.b.p0 (endF P.b.p0 (nS P.b.p0)) P.b.p0.length := by
            rw [end_goal, if_neg (by unfold stren; omega)]
          refine loop_ofH { x : Nat × Nat // x.1 ≤ P.b.p0.length } (fun x => [(167, .int .i64 (x.1.1 : Int)), (166, .int .i64 (P.b.p0.length : Int)), (165, .row P.b.p0.length 3 fun i j => .int .i64 (pf P.b.p0 i j)), (19, .vec 12 x.1.2), (16, .int .i64 (endF P.b.p0 (nS P.b.p0))), (13, .int .i64 0), (10, .ptr 3 0), (8, .ptr 2 0), (6, .int .i64 (i : Int)), (7, .ptr 1 0), (43, .int .i64 (i : Int)), (42, .int .i64 (n : Int)), (41, .row n 4 fun i j => .int .i64 (l i j)), (2, .bool false), (0, .row n 4 fun i j => .int .i64 (l i j))]) (fun h x => ⟨h.blks, setV h.vecs 12 (.live x.1.2 55 3 (wantF P.b.p0 (endF P.b.p0 (nS P.b.p0)) x.1.1).length (fun a j => .int .i64 (pf (wantF P.b.p0 (endF P.b.p0 (nS P.b.p0)) x.1.1) a j)))⟩) (fun x => P.b.p0.length - x.1.1) (fun _ => ⟨rfl, rfl⟩) ⟨(0, 0), by omega⟩ (by simp only [wantF, List.length_nil]; (apply sub_of <;> simp only [go_sem, ↓reduceIte, Nat.reduceAdd, Nat.reduceSub, Nat.reduceMul, Nat.reduceEqDiff, Nat.reduceLT, Nat.reduceLeDiff, Int.reduceToNat, Int.reduceLE, Int.reduceLT, Int.reduceEq, Int.reduceNeg, reduceCtorEq] <;> (try simp [catF]) <;> (try exact fun j _ => Bd_nth (by simp [BdL, Bd]) j) <;> (try exact bd_setL (by simp [bdAs, BdL, Bd])) <;> (try exact nestF_bd _ _ _ _ _ _ _ _ _))) ?_
          rintro ⟨⟨x, v⟩, hx⟩
          simp only at hx
          have hwl := wantF_len P.b.p0 (endF P.b.p0 (nS P.b.p0)) x
          have wx : IntKind.i64.wrap ((x : Int) + 1) = ((x + 1 : Nat) : Int) := by rw [wrap_id (by omega) (by omega)]; omega
          simp only [ht, wx, hwi, st1, st2, frz_cat0, frz_four, wh_int, wh_pl, Int.toNat_natCast, alive_eq, play_eq, at_eq, servedR_eq, same_eq, penEq_eq, without_eq, p8_10, p8_12, p8_15, boS, rowP, pl_pf, plR_plT, atR_agT, wiR_wiT, Try.f8, go_sem, ↓reduceIte, Nat.reduceAdd, Nat.reduceSub, Nat.reduceMul, Nat.reduceEqDiff, Nat.reduceLT, Nat.reduceLeDiff, Int.reduceToNat, Int.reduceLE, Int.reduceLT, Int.reduceEq, Int.reduceNeg, reduceCtorEq]
          refine spl_intro (fun y1 => ?_) (fun y1 => ?_)
          · simp only [decide_eq_true_eq] at y1
            refine ⟨⟨by omega, by omega⟩, spl_intro (fun y2 => ⟨⟨by omega, by omega⟩, ?_⟩) (fun y2 => ?_)⟩
            · simp only [Bool.not_eq_true', decide_eq_false_iff_not] at y2
              have k2 : wantF P.b.p0 (endF P.b.p0 (nS P.b.p0)) (x + 1) = wantF P.b.p0 (endF P.b.p0 (nS P.b.p0)) x ++ [⟨pf P.b.p0 x 0, pf P.b.p0 x 1, pf P.b.p0 x 2⟩] := by rw [wantF, if_neg y2]; rfl
              refine ⟨⟨(x + 1, v + 1), by omega⟩, by simp only []; omega, ?_⟩
              apply sub_of <;> simp only [wx, k2, go_sem, ↓reduceIte, Nat.reduceAdd, Nat.reduceSub, Nat.reduceMul, Nat.reduceEqDiff, Nat.reduceLT, Nat.reduceLeDiff, Int.reduceToNat, Int.reduceLE, Int.reduceLT, Int.reduceEq, Int.reduceNeg, reduceCtorEq] <;> (try simp) <;> (try exact fun j _ => Bd_nth (by simp [BdL, Bd]) j) <;> (try exact bd_setL (by simp [bdAs, BdL, Bd])) <;> (try exact nestF_bd _ _ _ _ _ _ _ _ _)
              exact (isPen_snoc (isPen_id _)).2
            · simp only [Bool.not_eq_false', decide_eq_true_eq] at y2
              have k2 : wantF P.b.p0 (endF P.b.p0 (nS P.b.p0)) (x + 1) = wantF P.b.p0 (endF P.b.p0 (nS P.b.p0)) x := by rw [wantF, if_pos y2]
              refine ⟨⟨(x + 1, v), by omega⟩, by simp only []; omega, ?_⟩
              apply sub_of <;> simp only [wx, k2, go_sem, ↓reduceIte, Nat.reduceAdd, Nat.reduceSub, Nat.reduceMul, Nat.reduceEqDiff, Nat.reduceLT, Nat.reduceLeDiff, Int.reduceToNat, Int.reduceLE, Int.reduceLT, Int.reduceEq, Int.reduceNeg, reduceCtorEq] <;> (try simp) <;> (try exact fun j _ => Bd_nth (by simp [BdL, Bd]) j) <;> (try exact bd_setL (by simp [bdAs, BdL, Bd])) <;> (try exact nestF_bd _ _ _ _ _ _ _ _ _)
          · simp only [decide_eq_false_iff_not] at y1
            obtain rfl : x = P.b.p0.length := by omega
            rw [hfin]
            simp only [pl_pf]
            refine ⟨by omega, by omega, spl_no (by simp) ⟨by omega, ⟨by omega, by omega⟩, ⟨by omega, by omega⟩, by omega, by omega, ⟨by omega, by omega, by omega, by omega⟩, ⟨⟨i + 1, by omega⟩, by simp only []; omega, ?_⟩⟩⟩
            apply sub_of <;> simp only [wi, go_sem, ↓reduceIte, Nat.reduceAdd, Nat.reduceSub, Nat.reduceMul, Nat.reduceEqDiff, Nat.reduceLT, Nat.reduceLeDiff, Int.reduceToNat, Int.reduceLE, Int.reduceLT, Int.reduceEq, Int.reduceNeg, reduceCtorEq] <;> (try simp) <;> (try exact fun j _ => Bd_nth (by simp [BdL, Bd]) j) <;> (try exact bd_setL (by simp [bdAs, BdL, Bd])) <;> (try exact nestF_bd _ _ _ _ _ _ _ _ _)
end Go.Eng
end

/-
  ClockGoals: for every input the law returns true, and each argument reads afterwards as it read before. No condition.
-/
section
namespace Go.Proofs.Ytjkbmnhpbncdcaa.clockGoals
open Go.ChangeShapes Go.WideShapes Go.ChangeAt Go.RowKit Go.Eng
set_option linter.unusedVariables false
theorem own : ownKnob Try.prog.godebug = none := by kernel_rfl
theorem laid : laidOutB Try.prog = true := by kernel_rfl
set_option maxRecDepth 100000 in
theorem lifted (os : Os) (started : os.Started) (H : Type) (enc : TypeId × Value → H) :
    ReturnsInHanded {} Try.checked os 8 .any (Rows.clockGoalsSpec.pre6 enc Try.prog Try.f8 Rows.clockGoalsRow.domain false) (Rows.clockGoalsSpec.post enc Try.prog Try.f8 false true false false) := by
  refine returnsInHanded_of_change (C := Try.checked) own started (by kernel_rfl) Try.func8
    (ChangeSpec.witness6 (enc := enc) (C := Try.checked) false ⟨#[], #[.slice none 0 0], []⟩ 8 (by kernel_rfl) (by kernel_rfl) (by kernel_rfl) (by kernel_rfl)) ?_
  intro W base args ds gs before hval0 hW hcnd _
  have hval : ∀ (j : Nat) t v, Try.f8.params[j]? = some t → args[j]? = some v → Value.okWide Try.prog W .any base t v := hval0
  have hW' := hW
  obtain ⟨p, q, hA0, hV, rfl, hfz, hnd⟩ := hW
  have hA : DataW.TrodAll enc Try.prog W 0 (fun _ => true) true Try.f8.params.toList args.toList ds p := hA0
  rw [Try.params8] at hA hval
  obtain ⟨v0, vs0, d0, ds0, p0, q0, hargs, rfl, rfl, h0, r0⟩ := trodAll_cons hA
  obtain ⟨rfl, rfl, rfl⟩ := trodAll_nil r0
  obtain rfl : args = #[v0] := by cases args; simp_all
  obtain ⟨rfl, rfl⟩ := trodVars_none hV
  obtain ⟨n0, f0, e0, m0, t0⟩ := arg_row (s := [.int .i64, .int .i64, .int .i64, .int .i64]) Try.underlying22 (by kernel_rfl) (hval 0 22 v0 rfl rfl) h0
  obtain ⟨i0, b0⟩ := intK_of_typ (k := .i64) (c := 4) rfl t0
  have hd : DenL Env.emp W [.row n0 4 f0] [v0] := ⟨e0, trivial⟩
  refine (law_calls clockGoals_base (args := [.row n0 4 f0]) rfl ⟨rfl, fun i j hi hj => i0 i j hi hj⟩ (denA_of hd)).mono fun e W' ⟨he, hb⟩ => ?_
  subst he
  exact ⟨_, rfl, law_end laid rfl Try.underlying4 (by kernel_rfl) rfl hW' rfl hb⟩
theorem over : Rows.clockGoalsRow.holds Try.pinned (OpenSpec.ofChange Rows.clockGoalsSpec) :=
  OpenClaim.holds_of_wide 8 Try.f8 rfl rfl rfl rfl rfl rfl rfl ⟨rfl, rfl, rfl, rfl, rfl⟩ rfl rfl rfl rfl rfl (by kernel_rfl) Try.func8 (by kernel_rfl)
    (of_decide_eq_true (by kernel_rfl)) (by unfold Func.isWrapper; first | (rw [if_pos (by decide +kernel)]; kernel_rfl) | (rw [if_neg (by decide +kernel)]; exact ⟨rfl, rfl⟩))
    (fun os started H enc _ => lifted os started H enc)
end Go.Proofs.Ytjkbmnhpbncdcaa.clockGoals
namespace Go.Proofs.Ytjkbmnhpbncdcaa
/-- The given statement. -/
theorem clockGoals_holds : Rows.ClockGoalsSaid := clockGoals.over
#print axioms clockGoals_holds
end Go.Proofs.Ytjkbmnhpbncdcaa
end
