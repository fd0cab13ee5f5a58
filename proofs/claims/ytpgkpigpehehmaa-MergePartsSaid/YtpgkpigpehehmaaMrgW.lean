import Derived.Test.YtpgkpigpehehmaaMrgU
set_option linter.unusedVariables false
set_option linter.unusedSimpArgs false
namespace Go.Proofs.Ytpgkpigpehehmaa.Bas
open Go.RowKit Go.Maps Go.Sort Go.Shelf

/-! ### The reference's merging, step by step, in plain words -/
theorem getD_get {l : List En} {j : Nat} (h : j < l.length) : l.getD j enD = l[j] := by simp [List.getD, h]
def hd (ess : List (List En)) (ats : Nat → Nat) (i : Nat) : En := (ess.getD i []).getD (ats i) enD
structure MSt (ess : List (List En)) (ats : Nat → Nat) (M : List En) : Prop where
  le : ∀ i, i < ess.length → ats i ≤ (ess.getD i []).length
  rise : Rising M
  done : ∀ i j, i < ess.length → j < ats i → ∃ m ∈ M, keyCmp m.k ((ess.getD i []).getD j enD).k = 0
  left : ∀ i j, i < ess.length → ats i ≤ j → j < (ess.getD i []).length → ∀ m ∈ M, keyCmp m.k ((ess.getD i []).getD j enD).k < 0
  first : ∀ m ∈ M, ess.flatten.find? (eqK m) = some m
theorem MSt.start (ess : List (List En)) : MSt ess (fun _ => 0) [] :=
  ⟨fun _ _ => Nat.zero_le _, List.Pairwise.nil, fun _ _ _ h => absurd h (Nat.not_lt_zero _), (fun _ _ _ _ _ m hm => by cases hm), (fun m hm => by cases hm)⟩
theorem mem_flat {ess : List (List En)} {x : En} (h : x ∈ ess.flatten) : ∃ i j, i < ess.length ∧ j < (ess.getD i []).length ∧ x = (ess.getD i []).getD j enD := by
  obtain ⟨l, hl, hx⟩ := List.mem_flatten.1 h
  obtain ⟨i, hi, rfl⟩ := List.mem_iff_getElem.1 hl
  obtain ⟨j, hj, rfl⟩ := List.mem_iff_getElem.1 hx
  have e : ess.getD i [] = ess[i] := by simp [List.getD, hi]
  exact ⟨i, j, hi, by rw [e]; exact hj, by rw [e]; simp [List.getD, hj]⟩
theorem MSt.over {ess : List (List En)} {ats : Nat → Nat} {M : List En} (h : MSt ess ats M) (hn : ∀ i, i < ess.length → ¬ ats i < (ess.getD i []).length) : Tells ess.flatten M :=
  ⟨h.rise, fun x hx => by
    obtain ⟨i, j, hi, hj, rfl⟩ := mem_flat hx
    exact h.done i j hi (by have := hn i hi; omega), h.first⟩
/-- The first of the least heads. -/
structure Best (ess : List (List En)) (ats : Nat → Nat) (k b : Nat) : Prop where
  lt : b < k
  has : ats b < (ess.getD b []).length
  least : ∀ i, i < k → ats i < (ess.getD i []).length → keyCmp (hd ess ats b).k (hd ess ats i).k ≤ 0
  first : ∀ i, i < b → ats i < (ess.getD i []).length → keyCmp (hd ess ats b).k (hd ess ats i).k < 0
theorem Best.none_next {ess : List (List En)} {ats : Nat → Nat} {k : Nat} (h : ∀ i, i < k → ¬ ats i < (ess.getD i []).length) (hk : ats k < (ess.getD k []).length) : Best ess ats (k + 1) k :=
  ⟨Nat.lt_succ_self k, hk, fun i hi h1 => by
    by_cases e : i = k
    · rw [e, keyCmp_self]; exact Int.le_refl _
    · exact absurd h1 (h i (by omega)), fun i hi h1 => absurd h1 (h i hi)⟩
theorem Best.skip {ess : List (List En)} {ats : Nat → Nat} {k b : Nat} (h : Best ess ats k b) (hk : ¬ ats k < (ess.getD k []).length) : Best ess ats (k + 1) b :=
  ⟨by have := h.lt; omega, h.has, fun i hi h1 => by
    by_cases e : i = k
    · subst e; exact absurd h1 hk
    · exact h.least i (by omega) h1, h.first⟩
theorem Best.stay {ess : List (List En)} {ats : Nat → Nat} {k b : Nat} (h : Best ess ats k b) (hc : ¬ keyCmp (hd ess ats k).k (hd ess ats b).k < 0) : Best ess ats (k + 1) b :=
  ⟨by have := h.lt; omega, h.has, fun i hi h1 => by
    by_cases e : i = k
    · subst e; exact kc_ge.1 hc
    · exact h.least i (by omega) h1, h.first⟩
theorem Best.turn {ess : List (List En)} {ats : Nat → Nat} {k b : Nat} (h : Best ess ats k b) (hk : ats k < (ess.getD k []).length) (hc : keyCmp (hd ess ats k).k (hd ess ats b).k < 0) : Best ess ats (k + 1) k :=
  ⟨Nat.lt_succ_self k, hk, fun i hi h1 => by
    by_cases e : i = k
    · subst e; rw [keyCmp_self]; exact Int.le_refl _
    · have := kc_lt_le hc (h.least i (by omega) h1); omega, fun i hi h1 => kc_lt_le hc (h.least i hi h1)⟩
/-- The places behind all heads of the best's key. -/
def nextAt (ess : List (List En)) (ats : Nat → Nat) (e : En) (i : Nat) : Nat := if ats i < (ess.getD i []).length ∧ keyCmp (hd ess ats i).k e.k = 0 then ats i + 1 else ats i
theorem find_flat {p : En → Bool} : ∀ {ess : List (List En)} {b : Nat} {e : En}, b < ess.length → (∀ i, i < b → ∀ x ∈ ess.getD i [], p x = false) → (ess.getD b []).find? p = some e → ess.flatten.find? p = some e
  | [], b, e, hb, _, _ => absurd hb (Nat.not_lt_zero _)
  | l :: r, 0, e, _, _, h => by
    rw [List.flatten_cons, List.find?_append]
    have : l.find? p = some e := by simpa [List.getD] using h
    rw [this]
    rfl
  | l :: r, b + 1, e, hb, h0, h => by
    rw [List.flatten_cons, List.find?_append]
    have h1 : l.find? p = none := by
      rw [List.find?_eq_none]
      intro x hx
      have := h0 0 (by omega) x (by simpa [List.getD] using hx)
      simp [this]
    rw [h1]
    have := find_flat (ess := r) (b := b) (e := e) (by simpa using hb) (fun i hi x hx => h0 (i + 1) (by omega) x (by simpa [List.getD] using hx)) (by simpa [List.getD] using h)
    simpa using this
theorem MSt.step {ess : List (List En)} {ats : Nat → Nat} {M : List En} {b : Nat} (h : MSt ess ats M) (hr : ∀ i, i < ess.length → risesFrom (ess.getD i []) = true) (hb : Best ess ats ess.length b) : MSt ess (nextAt ess ats (hd ess ats b)) (M ++ [hd ess ats b]) := by
  have hbl := hb.lt
  have hbh := hb.has
  have hMe : ∀ m ∈ M, keyCmp m.k (hd ess ats b).k < 0 := fun m hm => h.left b (ats b) hbl (Nat.le_refl _) hbh m hm
  have hrow : ∀ i j k, i < ess.length → j < k → k < (ess.getD i []).length → keyCmp ((ess.getD i []).getD j enD).k ((ess.getD i []).getD k enD).k < 0 := fun i j k hi hjk hk => by
    have := (List.pairwise_iff_getElem.1 (rises_pairwise (hr i hi))) j k (by omega) hk hjk
    rw [getD_get hk, getD_get (show j < (ess.getD i []).length by omega)]
    exact this
  refine ⟨fun i hi => ?_, ?_, fun i j hi hj => ?_, fun i j hi hj hl m hm => ?_, fun m hm => ?_⟩
  · unfold nextAt
    split
    · rename_i hc; exact hc.1
    · exact h.le i hi
  · unfold Rising
    rw [List.pairwise_append]
    exact ⟨h.rise, List.pairwise_singleton _ _, fun m hm y hy => by rw [List.mem_singleton.1 hy]; exact hMe m hm⟩
  · unfold nextAt at hj
    split at hj
    · rename_i hc
      by_cases e : j = ats i
      · subst e
        exact ⟨_, List.mem_append_right _ (List.mem_singleton.2 rfl), kc_sym hc.2⟩
      · obtain ⟨m, hm, e⟩ := h.done i j hi (by omega)
        exact ⟨m, List.mem_append_left _ hm, e⟩
    · obtain ⟨m, hm, e⟩ := h.done i j hi hj
      exact ⟨m, List.mem_append_left _ hm, e⟩
  · have hge : ats i ≤ j := by
      unfold nextAt at hj
      split at hj <;> omega
    rcases List.mem_append.1 hm with hm | hm
    · exact h.left i j hi hge hl m hm
    · rw [List.mem_singleton.1 hm]
      have h1 := hb.least i hi (by omega)
      by_cases e : j = ats i
      · subst e
        have hne : ¬ keyCmp (hd ess ats i).k (hd ess ats b).k = 0 := fun h0 => by
          unfold nextAt at hj
          rw [if_pos ⟨by omega, h0⟩] at hj
          omega
        have h2 := keyCmp_anti (hd ess ats i).k (hd ess ats b).k
        show keyCmp (hd ess ats b).k (hd ess ats i).k < 0
        omega
      · exact kc_le_lt h1 (hrow i (ats i) j hi (by omega) hl)
  · rcases List.mem_append.1 hm with hm | hm
    · exact h.first m hm
    · rw [List.mem_singleton.1 hm]
      have hold : ∀ i j, i < ess.length → j < ats i → eqK (hd ess ats b) ((ess.getD i []).getD j enD) = false := fun i j hi hj => by
        obtain ⟨m, hm, e⟩ := h.done i j hi hj
        have h1 := hMe m hm
        refine decide_eq_false (fun h2 => ?_)
        have := kc_eq e (kc_sym h2)
        omega
      refine find_flat hbl (fun i hi x hx => ?_) ?_
      · obtain ⟨j, hj, rfl⟩ := List.mem_iff_getElem.1 hx
        have ex : (ess.getD i [])[j] = (ess.getD i []).getD j enD := (getD_get hj).symm
        rw [ex]
        by_cases hja : j < ats i
        · exact hold i j (by omega) hja
        · have h1 := hb.first i hi (by omega)
          refine decide_eq_false (fun h2 => ?_)
          by_cases e : j = ats i
          · subst e
            have h3 : keyCmp (hd ess ats b).k (hd ess ats i).k = 0 := h2
            omega
          · have := hrow i (ats i) j (by omega) (by omega) hj
            have h4 : keyCmp (hd ess ats b).k ((ess.getD i []).getD j enD).k < 0 := kc_lt_le h1 (by show keyCmp ((ess.getD i []).getD (ats i) enD).k _ ≤ 0; omega)
            omega
      · have hsp : ess.getD b [] = (ess.getD b []).take (ats b) ++ (hd ess ats b :: (ess.getD b []).drop (ats b + 1)) := by
          conv => lhs; rw [← List.take_append_drop (ats b) (ess.getD b [])]
          congr 1
          rw [List.drop_eq_getElem_cons hbh]
          congr 1
          exact (getD_get hbh).symm
        rw [hsp, List.find?_append]
        have hn : ((ess.getD b []).take (ats b)).find? (eqK (hd ess ats b)) = none := by
          rw [List.find?_eq_none]
          intro x hx
          obtain ⟨j, hj, rfl⟩ := List.mem_iff_getElem.1 hx
          have hj' : j < ats b := by rw [List.length_take] at hj; omega
          rw [List.getElem_take]
          have ex : (ess.getD b [])[j]'(by omega) = (ess.getD b []).getD j enD := (getD_get (by omega)).symm
          rw [ex, hold b j hbl hj']
          simp
        rw [hn, List.find?_cons]
        simp [eqK, keyCmp_self]
/-- No more are told than there are. -/
theorem rising_short : ∀ (M X : List En), Rising M → (∀ m ∈ M, m ∈ X) → M.length ≤ X.length
  | [], X, _, _ => Nat.zero_le _
  | m :: M, X, h, hs => by
    obtain ⟨s, t, rfl⟩ := List.append_of_mem (hs m (List.mem_cons_self ..))
    have h' := List.pairwise_cons.1 h
    have := rising_short M (s ++ t) h'.2 (fun y hy => by
      have h1 := hs y (List.mem_cons_of_mem _ hy)
      rcases List.mem_append.1 h1 with h1 | h1
      · exact List.mem_append_left _ h1
      · rcases List.mem_cons.1 h1 with e | h1
        · subst e
          have := h'.1 y hy
          rw [keyCmp_self] at this
          omega
        · exact List.mem_append_right _ h1)
    simp only [List.length_append, List.length_cons] at this ⊢
    omega
theorem MSt.short {ess : List (List En)} {ats : Nat → Nat} {M : List En} (h : MSt ess ats M) : M.length ≤ ess.flatten.length :=
  rising_short M _ h.rise (fun m hm => List.mem_of_find?_eq_some (h.first m hm))
end Go.Proofs.Ytpgkpigpehehmaa.Bas
