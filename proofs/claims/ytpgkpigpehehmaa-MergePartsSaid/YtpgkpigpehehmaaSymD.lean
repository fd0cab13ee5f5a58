import Derived.Test.YtpgkpigpehehmaaSymC
set_option linter.unusedVariables false
set_option linter.unusedSimpArgs false
namespace Go.Proofs.Ytpgkpigpehehmaa.Bas
open Go.RowKit Go.Maps Go.Sort Go.Shelf Go.Lib

/-! ### SymMerge, in plain words -/
section
variable {α : Type} (lt : α → α → Bool)
def leOf : α → α → Bool := fun x y => !(lt y x)
theorem merge_split : ∀ (u1 v1 u2 v2 : List α), (∀ x ∈ u1, ∀ y ∈ v2, lt y x = false) → (∀ y ∈ v1, ∀ x ∈ u2, lt y x = true) →
    List.merge (u1 ++ u2) (v1 ++ v2) (leOf lt) = List.merge u1 v1 (leOf lt) ++ List.merge u2 v2 (leOf lt)
  | [], [], u2, v2, _, _ => by simp
  | [], y :: v1, u2, v2, h1, h2 => by
    have ih := merge_split [] v1 u2 v2 (by simp) (fun z hz => h2 z (List.mem_cons_of_mem _ hz))
    match u2, h2, ih with
    | [], _, _ => simp
    | x :: u2, h2, ih =>
      have hl : lt y x = true := h2 y (List.mem_cons_self ..) x (List.mem_cons_self ..)
      simp only [List.nil_append, List.cons_append, List.nil_merge] at ih ⊢
      rw [List.cons_merge_cons, if_neg (by simp [leOf, hl]), ih]
  | x :: u1, [], u2, v2, h1, h2 => by
    have ih := merge_split u1 [] u2 v2 (fun z hz => h1 z (List.mem_cons_of_mem _ hz)) (by simp)
    match v2, h1, ih with
    | [], _, _ => simp
    | y :: v2, h1, ih =>
      have hl : lt y x = false := h1 x (List.mem_cons_self ..) y (List.mem_cons_self ..)
      simp only [List.nil_append, List.cons_append, List.merge_right] at ih ⊢
      rw [List.cons_merge_cons, if_pos (by simp [leOf, hl]), ih]
  | x :: u1, y :: v1, u2, v2, h1, h2 => by
    have ih1 := merge_split u1 (y :: v1) u2 v2 (fun z hz => h1 z (List.mem_cons_of_mem _ hz)) h2
    have ih2 := merge_split (x :: u1) v1 u2 v2 h1 (fun z hz => h2 z (List.mem_cons_of_mem _ hz))
    simp only [List.cons_append] at ih1 ih2 ⊢
    rw [List.cons_merge_cons, List.cons_merge_cons]
    split
    · rw [ih1]; rfl
    · rw [ih2]; rfl
  termination_by u1 v1 => u1.length + v1.length
theorem merge_le {u v : List α} (h : ∀ x ∈ u, ∀ y ∈ v, lt y x = false) : List.merge u v (leOf lt) = u ++ v := by
  have := merge_split lt u [] [] v h (by simp)
  simpa using this
def seg (f : Nat → α) (a b : Nat) : List α := (List.range' a (b - a)).map f
theorem seg_app (f : Nat → α) {a m b : Nat} (h1 : a ≤ m) (h2 : m ≤ b) : seg f a b = seg f a m ++ seg f m b := by
  unfold seg
  rw [← List.map_append]
  congr 1
  have := List.range'_append_1 (s := a) (m := m - a) (n := b - m)
  rw [show a + (m - a) = m by omega, show m - a + (b - m) = b - a by omega] at this
  exact this.symm
theorem mem_seg {f : Nat → α} {a b : Nat} {x : α} (h : x ∈ seg f a b) : ∃ k, a ≤ k ∧ k < b ∧ f k = x := by
  obtain ⟨k, hk, e⟩ := List.mem_map.1 h
  have := List.mem_range'_1.1 hk
  exact ⟨k, by omega, by omega, e⟩
theorem seg_ext {f g : Nat → α} {a b : Nat} (h : ∀ k, a ≤ k → k < b → f k = g k) : seg f a b = seg g a b := by
  unfold seg
  refine List.map_congr_left (fun k hk => ?_)
  have := List.mem_range'_1.1 hk
  exact h k (by omega) (by omega)
theorem seg_move {f g : Nat → α} {a b c : Nat} (h : ∀ k, k < c → f (a + k) = g (b + k)) : seg f a (a + c) = seg g b (b + c) := by
  unfold seg
  rw [Nat.add_sub_cancel_left, Nat.add_sub_cancel_left]
  apply List.ext_getElem
  · simp
  · intro i h1 h2
    simp at h1
    simp [h i h1]
theorem seg_nil (f : Nat → α) {a b : Nat} (h : b ≤ a) : seg f a b = [] := by
  unfold seg
  rw [Nat.sub_eq_zero_of_le h]
  rfl
theorem rot_fst (f : Nat → α) {s m e : Nat} (h1 : s ≤ m) (h2 : m ≤ e) : seg (rotF f s m e) s (s + (e - m)) = seg f m e := by
  have := seg_move (f := rotF f s m e) (g := f) (a := s) (b := m) (c := e - m) (fun k hk => by
    unfold rotF
    rw [if_pos (by omega)]
    congr 1; omega)
  rwa [show m + (e - m) = e by omega] at this
theorem rot_snd (f : Nat → α) {s m e : Nat} (h1 : s ≤ m) (h2 : m ≤ e) : seg (rotF f s m e) (s + (e - m)) e = seg f s m := by
  have := seg_move (f := rotF f s m e) (g := f) (a := s + (e - m)) (b := s) (c := m - s) (fun k hk => by
    unfold rotF
    rw [if_neg (by omega), if_pos (by omega)]
    congr 1; omega)
  rwa [show s + (e - m) + (m - s) = e by omega, show s + (m - s) = m by omega] at this
theorem rot_out (f : Nat → α) {s m e k : Nat} (h1 : s ≤ m) (h2 : m ≤ e) (h : k < s ∨ e ≤ k) : rotF f s m e k = f k := by
  unfold rotF
  rw [if_neg (by omega), if_neg (by omega)]
def Srt (f : Nat → α) (a b : Nat) : Prop := ∀ i j, a ≤ i → i < j → j < b → lt (f j) (f i) = false
theorem Srt.sub {f : Nat → α} {a b c d : Nat} (h : Srt lt f a b) (h1 : a ≤ c) (h2 : d ≤ b) : Srt lt f c d := fun i j a1 a2 a3 => h i j (by omega) a2 (by omega)
/-- a ≤ b, b ≤ c: a ≤ c. -/
def NT : Prop := ∀ a b c, lt b a = false → lt c b = false → lt c a = false
/-- F is f with its stretches [a, m) and [m, b) merged, equals of the left ahead. -/
def SymOK (f F : Nat → α) (a m b : Nat) : Prop := seg F a b = List.merge (seg f a m) (seg f m b) (leOf lt) ∧ ∀ k, k < a ∨ b ≤ k → F k = f k
variable {lt}
/-- Where u1 v1 are apart from u2 v2 (by the two neighbours at the cut). -/
theorem cut_all (hT : NT lt) {f : Nat → α} {a m b s e : Nat} (hu : Srt lt f a m) (hv : Srt lt f m b) (h1 : a ≤ s) (h2 : s ≤ m) (h3 : m ≤ e) (h4 : e ≤ b)
    (c1 : a < s → e < b → lt (f e) (f (s - 1)) = false) (c2 : m < e → s < m → lt (f (e - 1)) (f s) = true) :
    (∀ x ∈ seg f a s, ∀ y ∈ seg f e b, lt y x = false) ∧ (∀ y ∈ seg f m e, ∀ x ∈ seg f s m, lt y x = true) := by
  have le : ∀ {p q i j : Nat}, Srt lt f p q → p ≤ i → i ≤ j → j < q → (lt (f j) (f i) = false ∨ i = j) := fun hs a1 a2 a3 => by
    rcases Nat.lt_or_ge _ _ with h | h
    · exact .inl (hs _ _ a1 h a3)
    · exact .inr (Nat.le_antisymm a2 h)
  refine ⟨fun x hx y hy => ?_, fun y hy x hx => ?_⟩
  · obtain ⟨i, i1, i2, rfl⟩ := mem_seg hx
    obtain ⟨j, j1, j2, rfl⟩ := mem_seg hy
    have hc := c1 (by omega) (by omega)
    have k1 : lt (f e) (f i) = false := by
      rcases le hu i1 (show i ≤ s - 1 by omega) (by omega) with h | h
      · exact hT _ _ _ h hc
      · rw [h]; exact hc
    rcases le hv h3 j1 j2 with h | h
    · exact hT _ _ _ k1 h
    · rw [← h]; exact k1
  · obtain ⟨j, j1, j2, rfl⟩ := mem_seg hy
    obtain ⟨i, i1, i2, rfl⟩ := mem_seg hx
    have hc := c2 (by omega) (by omega)
    cases hh : lt (f j) (f i) with
    | true => rfl
    | false =>
      exfalso
      have k1 : lt (f j) (f s) = false := by
        rcases le hu h1 i1 i2 with h | h
        · exact hT _ _ _ h hh
        · rw [h]; exact hh
      have k2 : lt (f (e - 1)) (f s) = false := by
        rcases le hv j1 (show j ≤ e - 1 by omega) (by omega) with h | h
        · exact hT _ _ _ k1 h
        · rw [← h]; exact k1
      rw [hc] at k2
      cases k2
theorem symOK_join {f F2 F3 : Nat → α} {a m b s e mid : Nat} (h1 : a ≤ s) (h2 : s ≤ m) (h3 : m ≤ e) (h4 : e ≤ b) (hmid : mid = s + (e - m))
    (hc : (∀ x ∈ seg f a s, ∀ y ∈ seg f e b, lt y x = false) ∧ (∀ y ∈ seg f m e, ∀ x ∈ seg f s m, lt y x = true))
    (k2 : SymOK lt (rotF f s m e) F2 a s mid) (k3 : SymOK lt F2 F3 mid e b) : SymOK lt f F3 a m b := by
  have e1 : seg F3 a mid = seg F2 a mid := seg_ext (fun k _ hk => k3.2 k (.inl hk))
  have e2 : seg F2 mid e = seg (rotF f s m e) mid e := seg_ext (fun k hk _ => k2.2 k (.inr hk))
  have e3 : seg F2 e b = seg (rotF f s m e) e b := seg_ext (fun k hk _ => k2.2 k (.inr (by omega)))
  have e4 : seg (rotF f s m e) a s = seg f a s := seg_ext (fun k _ hk => rot_out f h2 h3 (.inl hk))
  have e5 : seg (rotF f s m e) e b = seg f e b := seg_ext (fun k hk _ => rot_out f h2 h3 (.inr hk))
  have e6 : seg (rotF f s m e) s mid = seg f m e := by rw [hmid]; exact rot_fst f h2 h3
  have e7 : seg (rotF f s m e) mid e = seg f s m := by rw [hmid]; exact rot_snd f h2 h3
  refine ⟨?_, fun k hk => ?_⟩
  · rw [seg_app F3 (show a ≤ mid by omega) (show mid ≤ b by omega), e1, k2.1, k3.1, e2, e3, e4, e5, e6, e7, ← merge_split lt _ _ _ _ hc.1 hc.2, ← seg_app f h1 h2, ← seg_app f h3 h4]
  · rw [k3.2 k (by omega), k2.2 k (by omega)]
    exact rot_out f h2 h3 (by omega)
theorem symOK_same {f : Nat → α} {a m b : Nat} (h1 : a ≤ m) (h2 : m ≤ b) (h : ∀ x ∈ seg f a m, ∀ y ∈ seg f m b, lt y x = false) : SymOK lt f f a m b :=
  ⟨by rw [merge_le lt h]; exact seg_app f h1 h2, fun _ _ => rfl⟩
/-- One element on the left: it goes behind all that are less. -/
theorem symOK_one {f : Nat → α} {a b i : Nat} (h1 : a + 1 ≤ i) (h2 : i ≤ b) (c1 : ∀ j, a + 1 ≤ j → j < i → lt (f j) (f a) = true) (c2 : ∀ j, i ≤ j → j < b → lt (f j) (f a) = false) : SymOK lt f (rotF f a (a + 1) i) a (a + 1) b := by
  have hsa : ∀ x ∈ seg f a (a + 1), x = f a := fun x hx => by
    obtain ⟨k, k1, k2, rfl⟩ := mem_seg hx
    rw [show k = a by omega]
  refine symOK_join (s := a) (e := i) (mid := a + (i - (a + 1))) (F2 := rotF f a (a + 1) i) (Nat.le_refl _) (Nat.le_succ _) h1 h2 rfl ⟨(fun x hx => by rw [seg_nil f (Nat.le_refl _)] at hx; cases hx), fun y hy x hx => ?_⟩ (symOK_same (Nat.le_refl _) (by omega) (fun x hx => by rw [seg_nil _ (Nat.le_refl _)] at hx; cases hx)) (symOK_same (by omega) h2 (fun x hx y hy => ?_))
  · obtain ⟨j, j1, j2, rfl⟩ := mem_seg hy
    rw [hsa x hx]
    exact c1 j j1 j2
  · rw [rot_snd f (Nat.le_succ _) h1] at hx
    rw [hsa x hx]
    rw [seg_ext (g := f) (fun k hk _ => rot_out f (Nat.le_succ _) h1 (.inr hk))] at hy
    obtain ⟨j, j1, j2, rfl⟩ := mem_seg hy
    exact c2 j j1 j2
/-- One element on the right: it goes ahead of all that it is less than. -/
theorem symOK_one' {f : Nat → α} {a m i : Nat} (h1 : a ≤ i) (h2 : i ≤ m) (c1 : ∀ j, a ≤ j → j < i → lt (f m) (f j) = false) (c2 : ∀ j, i ≤ j → j < m → lt (f m) (f j) = true) : SymOK lt f (rotF f i m (m + 1)) a m (m + 1) := by
  have hsm : ∀ x ∈ seg f m (m + 1), x = f m := fun x hx => by
    obtain ⟨k, k1, k2, rfl⟩ := mem_seg hx
    rw [show k = m by omega]
  refine symOK_join (s := i) (e := m + 1) (mid := i + (m + 1 - m)) (F2 := rotF f i m (m + 1)) h1 h2 (Nat.le_succ _) (Nat.le_refl _) rfl ⟨(fun x hx y hy => by rw [seg_nil f (Nat.le_refl _)] at hy; cases hy), fun y hy x hx => ?_⟩ (symOK_same h1 (by omega) (fun x hx y hy => ?_)) (symOK_same (by omega) (Nat.le_refl _) (fun x hx y hy => by rw [seg_nil _ (Nat.le_refl _)] at hy; cases hy))
  · obtain ⟨j, j1, j2, rfl⟩ := mem_seg hx
    rw [hsm y hy]
    exact c2 j j1 j2
  · rw [rot_fst f h2 (Nat.le_succ _)] at hy
    rw [hsm y hy]
    rw [seg_ext (g := f) (fun k _ hk => rot_out f h2 (Nat.le_succ _) (.inl hk))] at hx
    obtain ⟨j, j1, j2, rfl⟩ := mem_seg hx
    exact c1 j j1 j2
theorem cut_low (hT : NT lt) {f : Nat → α} {m b i : Nat} {x : α} (hv : Srt lt f m b) (h1 : m ≤ i) (h2 : i ≤ b) (hI : m < i → lt (f (i - 1)) x = true) (hJ : i < b → lt (f i) x = false) :
    (∀ j, m ≤ j → j < i → lt (f j) x = true) ∧ (∀ j, i ≤ j → j < b → lt (f j) x = false) := by
  refine ⟨fun j a1 a2 => ?_, fun j a1 a2 => ?_⟩
  · have hc := hI (by omega)
    by_cases hj : j = i - 1
    · rw [hj]; exact hc
    · cases hh : lt (f j) x with
      | true => rfl
      | false =>
        have := hT _ _ _ hh (hv j (i - 1) a1 (by omega) (by omega))
        rw [hc] at this
        cases this
  · have hc := hJ (by omega)
    by_cases hj : j = i
    · rw [hj]; exact hc
    · exact hT _ _ _ hc (hv i j h1 (by omega) a2)
theorem cut_high (hT : NT lt) {f : Nat → α} {a m i : Nat} {x : α} (hu : Srt lt f a m) (h1 : a ≤ i) (h2 : i ≤ m) (hI : a < i → lt x (f (i - 1)) = false) (hJ : i < m → lt x (f i) = true) :
    (∀ j, a ≤ j → j < i → lt x (f j) = false) ∧ (∀ j, i ≤ j → j < m → lt x (f j) = true) := by
  refine ⟨fun j a1 a2 => ?_, fun j a1 a2 => ?_⟩
  · have hc := hI (by omega)
    by_cases hj : j = i - 1
    · rw [hj]; exact hc
    · exact hT _ _ _ (hu j (i - 1) a1 (by omega) (by omega)) hc
  · have hc := hJ (by omega)
    by_cases hj : j = i
    · rw [hj]; exact hc
    · cases hh : lt x (f j) with
      | true => rfl
      | false =>
        have := hT _ _ _ (hu i j h1 (by omega) a2) hh
        rw [hc] at this
        cases this
/-- One more neighbour passed, upward. -/
theorem up_step [Inhabited α] {f : Nat → α} {dk : Array α} {a k : Nat} (hk : a ≤ k) (hsz : k + 1 < dk.size) (h : get dk = rotF f a (a + 1) (k + 1)) : get (swp dk k (k + 1)) = rotF f a (a + 1) (k + 1 + 1) := by
  funext q
  rw [get_swp dk (by omega) hsz, h]
  unfold rotF
  repeat' split
  all_goals first | rfl | (congr 1; omega) | (exfalso; omega)
theorem up_start (f : Nat → α) (a : Nat) : rotF f a (a + 1) (a + 1) = f := by
  funext q
  unfold rotF
  repeat' split
  all_goals first | rfl | (congr 1; omega) | (exfalso; omega)
theorem down_step [Inhabited α] {f : Nat → α} {dk : Array α} {m k : Nat} (hk : k + 1 ≤ m) (hsz : k + 1 < dk.size) (h : get dk = rotF f (k + 1) m (m + 1)) : get (swp dk (k + 1) k) = rotF f k m (m + 1) := by
  funext q
  rw [get_swp dk hsz (by omega), h]
  unfold rotF
  repeat' split
  all_goals first | rfl | (congr 1; omega) | (exfalso; omega)
theorem down_start (f : Nat → α) (m : Nat) : rotF f m m (m + 1) = f := by
  funext q
  unfold rotF
  repeat' split
  all_goals first | rfl | (congr 1; omega) | (exfalso; omega)
end
end Go.Proofs.Ytpgkpigpehehmaa.Bas
