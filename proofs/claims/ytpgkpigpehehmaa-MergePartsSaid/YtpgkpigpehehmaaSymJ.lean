import Derived.Test.YtpgkpigpehehmaaSymI
set_option linter.unusedVariables false
set_option linter.unusedSimpArgs false
namespace Go.Proofs.Ytpgkpigpehehmaa.Bas
open Go.RowKit Go.Maps Go.Sort Go.Shelf Go.Lib

/-! ### Equals keep their order -/
section
variable {α : Type} (lt : α → α → Bool)
def eqv (x y : α) : Bool := !(lt x y) && !(lt y x)
variable {lt}
theorem eqv_iff {x y : α} : eqv lt x y = true ↔ lt x y = false ∧ lt y x = false := by unfold eqv; cases lt x y <;> cases lt y x <;> simp
theorem merge_filter (hT : NT lt) (x : α) : ∀ (u v : List α), u.Pairwise (fun a b => lt b a = false) → (List.merge u v (leOf lt)).filter (eqv lt x) = u.filter (eqv lt x) ++ v.filter (eqv lt x)
  | [], v, _ => by simp
  | a :: u, [], _ => by simp
  | a :: u, b :: v, h => by
    have ih1 := merge_filter hT x u (b :: v) (List.pairwise_cons.1 h).2
    have ih2 := merge_filter hT x (a :: u) v h
    rw [List.cons_merge_cons]
    split
    · rw [List.filter_cons, ih1, List.filter_cons (x := a) (xs := u)]
      by_cases ha : eqv lt x a = true
      · rw [if_pos ha, if_pos ha]; rfl
      · rw [if_neg ha, if_neg ha]
    · rename_i hl
      have hlt : lt b a = true := by simpa [leOf] using hl
      rw [List.filter_cons, ih2]
      by_cases hb : eqv lt x b = true
      · have hn : (a :: u).filter (eqv lt x) = [] := by
          rw [List.filter_eq_nil_iff]
          intro y hy hxy
          have h1 := eqv_iff.1 hb
          have h2 := eqv_iff.1 hxy
          have h3 : lt y a = false := by
            rcases List.mem_cons.1 hy with rfl | hy
            · cases hh : lt y y with
              | false => rfl
              | true => exact absurd (hT y x y h2.1 h2.2) (by rw [hh]; simp)
            · exact (List.pairwise_cons.1 h).1 y hy
          -- a ≤ y ≤ x ≤ b
          have h4 := hT a y x h3 h2.1
          have h5 := hT a x b h4 h1.2
          rw [hlt] at h5
          cases h5
        rw [if_pos hb, hn, List.nil_append, List.nil_append, List.filter_cons, if_pos hb]
      · rw [if_neg hb, List.filter_cons (x := b), if_neg hb]
  termination_by u v => u.length + v.length
theorem merge_sorted (hT : NT lt) (hA : ∀ x y, lt x y = true → lt y x = false) : ∀ (u v : List α), u.Pairwise (fun a b => lt b a = false) → v.Pairwise (fun a b => lt b a = false) → (List.merge u v (leOf lt)).Pairwise (fun a b => lt b a = false)
  | [], v, _, hv => by simpa using hv
  | a :: u, [], hu, _ => by simpa using hu
  | a :: u, b :: v, hu, hv => by
    have ih1 := merge_sorted hT hA u (b :: v) (List.pairwise_cons.1 hu).2 hv
    have ih2 := merge_sorted hT hA (a :: u) v hu (List.pairwise_cons.1 hv).2
    rw [List.cons_merge_cons]
    split
    · rename_i hl
      have hlt : lt b a = false := by simpa [leOf] using hl
      refine List.pairwise_cons.2 ⟨fun y hy => ?_, ih1⟩
      rcases List.mem_merge.1 hy with hy | hy
      · exact (List.pairwise_cons.1 hu).1 y hy
      · rcases List.mem_cons.1 hy with rfl | hy
        · exact hlt
        · exact hT _ _ _ hlt ((List.pairwise_cons.1 hv).1 y hy)
    · rename_i hl
      have hlt : lt a b = false := hA _ _ (by simpa [leOf] using hl)
      refine List.pairwise_cons.2 ⟨fun y hy => ?_, ih2⟩
      rcases List.mem_merge.1 hy with hy | hy
      · rcases List.mem_cons.1 hy with rfl | hy
        · exact hlt
        · exact hT _ _ _ hlt ((List.pairwise_cons.1 hu).1 y hy)
      · exact (List.pairwise_cons.1 hv).1 y hy
  termination_by u v => u.length + v.length
theorem seg_len (f : Nat → α) (a b : Nat) : (seg f a b).length = b - a := by simp [seg]
theorem seg_get (f : Nat → α) (a b i : Nat) (h : i < (seg f a b).length) : (seg f a b)[i] = f (a + i) := by simp [seg]
theorem srt_pairwise {f : Nat → α} {a b : Nat} : Srt lt f a b ↔ (seg f a b).Pairwise (fun x y => lt y x = false) := by
  rw [List.pairwise_iff_getElem]
  constructor
  · intro h i j hi hj hij
    rw [seg_get, seg_get]
    rw [seg_len] at hi hj
    exact h _ _ (by omega) (by omega) (by omega)
  · intro h i j h1 h2 h3
    have := h (i - a) (j - a) (by rw [seg_len]; omega) (by rw [seg_len]; omega) (by omega)
    rw [seg_get, seg_get, show a + (i - a) = i by omega, show a + (j - a) = j by omega] at this
    exact this
/-- The row of N elements: within each class of equals the order is the same. -/
def Same (lt : α → α → Bool) (N : Nat) (f g : Nat → α) : Prop := (seg f 0 N).Perm (seg g 0 N) ∧ ∀ x, (seg f 0 N).filter (eqv lt x) = (seg g 0 N).filter (eqv lt x)
theorem Same.refl {N : Nat} (f : Nat → α) : Same lt N f f := ⟨List.Perm.refl _, fun _ => rfl⟩
theorem Same.trans {N : Nat} {f g h : Nat → α} (h1 : Same lt N f g) (h2 : Same lt N g h) : Same lt N f h := ⟨h1.1.trans h2.1, fun x => (h1.2 x).trans (h2.2 x)⟩
theorem same_of_seg {N : Nat} {f g : Nat → α} {a b : Nat} (hab : a ≤ b) (hb : b ≤ N) (ho : ∀ k, k < a ∨ b ≤ k → f k = g k) (hp : (seg f a b).Perm (seg g a b)) (h : ∀ x, (seg f a b).filter (eqv lt x) = (seg g a b).filter (eqv lt x)) : Same lt N f g := by
  have ea : seg f 0 a = seg g 0 a := seg_ext (fun k _ hk => ho k (.inl hk))
  have eb : seg f b N = seg g b N := seg_ext (fun k hk _ => ho k (.inr hk))
  refine ⟨?_, fun x => ?_⟩
  · rw [seg_app f (Nat.zero_le a) (by omega : a ≤ N), seg_app f hab hb, seg_app g (Nat.zero_le a) (by omega : a ≤ N), seg_app g hab hb, ea, eb]
    exact (hp.append_right _).append_left _
  rw [seg_app f (Nat.zero_le a) (by omega : a ≤ N), seg_app f hab hb, seg_app g (Nat.zero_le a) (by omega : a ≤ N), seg_app g hab hb]
  simp only [List.filter_append]
  rw [h x, ea, eb]
theorem symOK_good (hS : SWO lt) {f F : Nat → α} {a m b N : Nat} (h : SymOK lt f F a m b) (h1 : a ≤ m) (h2 : m ≤ b) (hb : b ≤ N) (hu : Srt lt f a m) (hv : Srt lt f m b) : Srt lt F a b ∧ Same lt N F f := by
  have hA : ∀ x y, lt x y = true → lt y x = false := fun x y hxy => by
    cases hh : lt y x with
    | false => rfl
    | true =>
      have := hS.trans x y x hxy hh
      rw [hS.irrefl] at this
      cases this
  refine ⟨?_, same_of_seg (by omega) hb h.2 ?_ (fun x => ?_)⟩
  · rw [srt_pairwise, h.1]
    exact merge_sorted (nt_of hS) hA _ _ (srt_pairwise.1 hu) (srt_pairwise.1 hv)
  · rw [h.1, seg_app f h1 h2]
    exact List.merge_perm_append _
  · rw [h.1, merge_filter (nt_of hS) x _ _ (srt_pairwise.1 hu), seg_app f h1 h2, List.filter_append]
/-- Two neighbours of which the second is less, turned round. -/
theorem same_swp [Inhabited α] (hS : SWO lt) {d : Array α} {N j : Nat} (hN : d.size = N) (hj : j + 1 < N) (h : lt d[j + 1]! d[j]! = true) : Same lt N (get (swp d (j + 1) j)) (get d) := by
  have e : ∀ f : Nat → α, seg f j (j + 2) = [f j, f (j + 1)] := fun f => by
    unfold seg
    rw [show j + 2 - j = 2 by omega]
    rfl
  refine same_of_seg (a := j) (b := j + 2) (by omega) (by omega) (fun k hk => ?_) ?_ (fun x => ?_)
  · rw [get_swp d (by omega) (by omega), if_neg (by omega), if_neg (by omega)]
  · rw [e, e, get_swp d (by omega) (by omega), get_swp d (by omega) (by omega), if_neg (by omega), if_pos rfl, if_pos rfl]
    exact List.Perm.swap _ _ _
  · rw [e, e, get_swp d (by omega) (by omega), get_swp d (by omega) (by omega), if_neg (by omega), if_pos rfl, if_pos rfl]
    have hne : ¬ (eqv lt x (get d j) = true ∧ eqv lt x (get d (j + 1)) = true) := fun ⟨p, q⟩ => by
      have p := eqv_iff.1 p
      have q := eqv_iff.1 q
      have := hS.ntrans _ _ _ q.2 p.1
      rw [show lt (get d (j + 1)) (get d j) = true from h] at this
      cases this
    by_cases p : eqv lt x (get d j) = true <;> by_cases q : eqv lt x (get d (j + 1)) = true <;> simp_all [List.filter_cons]
theorem same_inner [Inhabited α] (hS : SWO lt) (a N : Nat) : ∀ (j : Nat) (d : Array α), d.size = N → j < N → Same lt N (get (insInner lt a j d)) (get d)
  | 0, d, _, _ => Same.refl _
  | j + 1, d, hN, hj => by
    unfold insInner
    split
    · rename_i hc
      have hl : lt d[j + 1]! d[j]! = true := by simp at hc; exact hc.2
      exact (same_inner hS a N j _ (by simp [swp]; exact hN) (by omega)).trans (same_swp hS hN hj hl)
    · exact Same.refl _
theorem insInner_size' [Inhabited α] (a : Nat) : ∀ (j : Nat) (d : Array α), (insInner lt a j d).size = d.size
  | 0, d => rfl
  | j + 1, d => by
    unfold insInner
    split
    · rw [insInner_size' a j]
      simp [swp]
    · rfl
theorem same_outer [Inhabited α] (hS : SWO lt) (a b N : Nat) (hb : b ≤ N) : ∀ (m i : Nat) (d : Array α), b - i ≤ m → d.size = N → Same lt N (get (insOuter lt a b i d)) (get d)
  | 0, i, d, h, _ => by
    unfold insOuter
    rw [if_neg (by omega)]
    exact Same.refl _
  | m + 1, i, d, h, hN => by
    unfold insOuter
    split
    · exact (same_outer hS a b N hb m (i + 1) _ (by omega) (by rw [insInner_size']; exact hN)).trans (same_inner hS a N i d hN (by omega))
    · exact Same.refl _
theorem ins_good [Inhabited α] (hS : SWO lt) {d : Array α} {a b N : Nat} (hN : d.size = N) (hab : a ≤ b) (hb : b ≤ N) :
    Srt lt (get (Sort.insertionSort lt d a b)) a b ∧ Same lt N (get (Sort.insertionSort lt d a b)) (get d) ∧ (∀ k, k < a ∨ b ≤ k → get (Sort.insertionSort lt d a b) k = get d k) ∧ (Sort.insertionSort lt d a b).size = N := by
  obtain ⟨h1, h2⟩ := insertionSort_holds (lt := lt) hS d a b hab (by omega)
  exact ⟨h2, same_outer hS a b N hb _ (a + 1) d (Nat.le_refl _) hN, fun k hk => h1.2.1 k hk, h1.1.trans hN⟩
end
end Go.Proofs.Ytpgkpigpehehmaa.Bas
