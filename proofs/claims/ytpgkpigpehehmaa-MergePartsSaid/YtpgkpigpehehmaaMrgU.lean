import Derived.Test.YtpgkpigpehehmaaMrgT
set_option linter.unusedVariables false
set_option linter.unusedSimpArgs false
namespace Go.Proofs.Ytpgkpigpehehmaa.Bas
open Go.RowKit Go.Maps Go.Sort Go.Shelf

/-! ### Merging, in plain words: what tells the result -/
theorem kc_ge {a b : Ky} : ¬ keyCmp a b < 0 ↔ keyCmp b a ≤ 0 := by
  have := keyCmp_anti a b
  omega
theorem kc_lt_le {a b c : Ky} (h1 : keyCmp a b < 0) (h2 : keyCmp b c ≤ 0) : keyCmp a c < 0 := by
  have t := keyCmp_trans a b c (by omega) h2
  by_cases h0 : keyCmp a c = 0
  · exfalso
    have e1 := keyCmp_anti a c
    have := keyCmp_trans b c a h2 (by omega)
    have := keyCmp_anti a b
    omega
  · omega
theorem kc_le_lt {a b c : Ky} (h1 : keyCmp a b ≤ 0) (h2 : keyCmp b c < 0) : keyCmp a c < 0 := by
  have t := keyCmp_trans a b c h1 (by omega)
  by_cases h0 : keyCmp a c = 0
  · exfalso
    have e1 := keyCmp_anti a c
    have := keyCmp_trans c a b (by omega) h1
    have := keyCmp_anti b c
    omega
  · omega
theorem kc_eq {a b c : Ky} (h1 : keyCmp a b = 0) (h2 : keyCmp b c = 0) : keyCmp a c = 0 := by
  have t := keyCmp_trans a b c (by omega) (by omega)
  have e1 := keyCmp_anti a b
  have e2 := keyCmp_anti b c
  have u := keyCmp_trans c b a (by omega) (by omega)
  have e3 := keyCmp_anti a c
  omega
theorem kc_sym {a b : Ky} (h : keyCmp a b = 0) : keyCmp b a = 0 := by
  have := keyCmp_anti a b
  omega
def Rising (M : List En) : Prop := M.Pairwise (fun x y => keyCmp x.k y.k < 0)
/-- M rises, has each class of X, and the first of each. -/
structure Tells (X M : List En) : Prop where
  rise : Rising M
  all : ∀ x ∈ X, ∃ m ∈ M, keyCmp m.k x.k = 0
  first : ∀ m ∈ M, X.find? (eqK m) = some m
theorem eqK_class {m m' : En} (h : keyCmp m.k m'.k = 0) : eqK m = eqK m' := by
  funext y
  unfold eqK
  by_cases h1 : keyCmp m.k y.k = 0
  · rw [decide_eq_true h1, decide_eq_true (kc_eq (kc_sym h) h1)]
  · rw [decide_eq_false h1, decide_eq_false (fun h2 => h1 (kc_eq h h2))]
theorem Tells.sub {X M M' : List En} (h : Tells X M) (h' : Tells X M') {m : En} (hm : m ∈ M) : m ∈ M' := by
  have h1 := h.first m hm
  have hx : m ∈ X := List.mem_of_find?_eq_some h1
  obtain ⟨m', hm', e⟩ := h'.all m hx
  have h2 := h'.first m' hm'
  rw [eqK_class e, h1] at h2
  injection h2 with h2
  rw [h2]; exact hm'
theorem rising_same : ∀ {a b : List En}, Rising a → Rising b → (∀ x, x ∈ a ↔ x ∈ b) → a = b
  | [], [], _, _, _ => rfl
  | [], y :: b, _, _, h => by have := (h y).2 (List.mem_cons_self ..); cases this
  | x :: a, [], _, _, h => by have := (h x).1 (List.mem_cons_self ..); cases this
  | x :: a, y :: b, ha, hb, h => by
    have ha' := List.pairwise_cons.1 ha
    have hb' := List.pairwise_cons.1 hb
    have hxy : x = y := by
      rcases List.mem_cons.1 ((h x).1 (List.mem_cons_self ..)) with e | hx
      · exact e
      · rcases List.mem_cons.1 ((h y).2 (List.mem_cons_self ..)) with e | hy
        · exact e.symm
        · exfalso
          have h1 := hb'.1 x hx
          have h2 := ha'.1 y hy
          have := keyCmp_anti x.k y.k
          omega
    subst hxy
    have ne : ∀ {l : List En}, (∀ z ∈ l, keyCmp x.k z.k < 0) → x ∉ l := fun hl hx => by
      have := hl x hx
      rw [keyCmp_self] at this
      omega
    rw [rising_same ha'.2 hb'.2 (fun z => ⟨fun hz => by
        rcases List.mem_cons.1 ((h z).1 (List.mem_cons_of_mem _ hz)) with e | hz'
        · exact absurd (e ▸ hz) (ne ha'.1)
        · exact hz', fun hz => by
        rcases List.mem_cons.1 ((h z).2 (List.mem_cons_of_mem _ hz)) with e | hz'
        · exact absurd (e ▸ hz) (ne hb'.1)
        · exact hz'⟩)]
theorem Tells.one {X M M' : List En} (h : Tells X M) (h' : Tells X M') : M = M' := rising_same h.rise h'.rise (fun x => ⟨fun hx => h.sub h' hx, fun hx => h'.sub h hx⟩)
/-! ### All tells so -/
theorem find_filter (p : En → Bool) (X : List En) : X.find? p = (X.filter p).head? := by rw [List.head?_filter]
theorem dd_tells {L : List En} (hs : L.Pairwise (fun x y => keyCmp x.k y.k ≤ 0)) : ∀ k, k ≤ L.length → Tells (L.take k) (dd L k)
  | 0, _ => ⟨List.Pairwise.nil, (fun x hx => by rw [List.take_zero] at hx; cases hx), (fun m hm => by cases hm)⟩
  | k + 1, hk => by
    have ih := dd_tells hs k (by omega)
    have e1 : dd L (k + 1) = if k = 0 ∨ keyCmp (L.getD (k - 1) enD).k (L.getD k enD).k ≠ 0 then dd L k ++ [L.getD k enD] else dd L k := rfl
    have e2 : L.take (k + 1) = L.take k ++ [L.getD k enD] := by
      rw [List.take_succ_eq_append_getElem (by omega)]
      simp [List.getD, show k < L.length by omega]
    have hle : ∀ i, i < k → keyCmp (L.getD i enD).k (L.getD k enD).k ≤ 0 := fun i hi => by
      have := (List.pairwise_iff_getElem.1 hs) i k (by omega) (by omega) hi
      simpa [List.getD, show i < L.length by omega, show k < L.length by omega] using this
    have hmem : ∀ x ∈ L.take k, ∃ i, i < k ∧ x = L.getD i enD := fun x hx => by
      obtain ⟨i, hi, e⟩ := List.mem_iff_getElem.1 hx
      rw [List.length_take] at hi
      refine ⟨i, by omega, ?_⟩
      rw [← e, List.getElem_take]
      simp [List.getD, show i < L.length by omega]
    have hdm : ∀ m ∈ dd L k, m ∈ L.take k := fun m hm => List.mem_of_find?_eq_some (ih.first m hm)
    rw [e1, e2]
    by_cases hc : k = 0 ∨ keyCmp (L.getD (k - 1) enD).k (L.getD k enD).k ≠ 0
    · rw [if_pos hc]
      have hlt : ∀ x ∈ L.take k, keyCmp x.k (L.getD k enD).k < 0 := fun x hx => by
        obtain ⟨i, hi, rfl⟩ := hmem x hx
        rcases hc with hc | hc
        · omega
        · have h1 := hle (k - 1) (by omega)
          have h2 : keyCmp (L.getD (k - 1) enD).k (L.getD k enD).k < 0 := by omega
          by_cases hik : i = k - 1
          · rw [hik]; exact h2
          · have := (List.pairwise_iff_getElem.1 hs) i (k - 1) (by omega) (by omega) (by omega)
            have h3 : keyCmp (L.getD i enD).k (L.getD (k - 1) enD).k ≤ 0 := by simpa [List.getD, show i < L.length by omega, show k - 1 < L.length by omega] using this
            exact kc_le_lt h3 h2
      refine ⟨?_, fun x hx => ?_, fun m hm => ?_⟩
      · unfold Rising
        rw [List.pairwise_append]
        refine ⟨ih.rise, List.pairwise_singleton _ _, fun m hm y hy => ?_⟩
        rw [List.mem_singleton.1 hy]
        exact hlt m (hdm m hm)
      · rcases List.mem_append.1 hx with hx | hx
        · obtain ⟨m, hm, e⟩ := ih.all x hx
          exact ⟨m, List.mem_append_left _ hm, e⟩
        · rw [List.mem_singleton.1 hx]
          exact ⟨_, List.mem_append_right _ (List.mem_singleton.2 rfl), keyCmp_self _⟩
      · rcases List.mem_append.1 hm with hm | hm
        · rw [List.find?_append, ih.first m hm]
          rfl
        · rw [List.mem_singleton.1 hm, List.find?_append]
          have hn : (L.take k).find? (eqK (L.getD k enD)) = none := by
            rw [List.find?_eq_none]
            intro x hx he
            have h1 := hlt x hx
            have h2 := kc_sym (of_decide_eq_true he)
            omega
          rw [hn]
          simp [eqK, keyCmp_self]
    · rw [if_neg hc]
      have h0 : keyCmp (L.getD (k - 1) enD).k (L.getD k enD).k = 0 := by
        by_cases h : keyCmp (L.getD (k - 1) enD).k (L.getD k enD).k = 0
        · exact h
        · exact absurd (.inr h) hc
      have hk0 : k ≠ 0 := fun h => hc (.inl h)
      have hin : L.getD (k - 1) enD ∈ L.take k := by
        rw [List.mem_iff_getElem]
        refine ⟨k - 1, by rw [List.length_take]; omega, ?_⟩
        rw [List.getElem_take]
        simp [List.getD, show k - 1 < L.length by omega]
      refine ⟨ih.rise, fun x hx => ?_, fun m hm => ?_⟩
      · rcases List.mem_append.1 hx with hx | hx
        · exact ih.all x hx
        · rw [List.mem_singleton.1 hx]
          obtain ⟨m, hm, e⟩ := ih.all _ hin
          exact ⟨m, hm, kc_eq e h0⟩
      · rw [List.find?_append, ih.first m hm]
        rfl
/-- The same classes and their firsts: told alike. -/
theorem Tells.of_str {a L M : List En} (h : StR a L) (hM : Tells L M) : Tells a M := by
  refine ⟨hM.rise, fun x hx => hM.all x (h.1.symm.subset hx), fun m hm => ?_⟩
  have h1 := hM.first m hm
  have hmL : m ∈ L := List.mem_of_find?_eq_some h1
  have hma : m ∈ a := h.1.subset hmL
  rw [find_filter] at h1 ⊢
  rw [← h.2.2 m hma]
  exact h1
theorem str_tells {a L : List En} (h : StR a L) : Tells a (dd L L.length) := by
  have := dd_tells h.2.1 L.length (Nat.le_refl _)
  rw [List.take_length] at this
  exact Tells.of_str h this
end Go.Proofs.Ytpgkpigpehehmaa.Bas
