import Derived.Test.YtpgkpigpehehmaaMrgB
set_option linter.unusedVariables false
set_option linter.unusedSimpArgs false
namespace Go.Proofs.Ytpgkpigpehehmaa.Bas
open Go.RowKit Go.Maps Go.Sort

set_option maxHeartbeats 2000000 in
set_option maxRecDepth 100000 in
theorem closure_any {w : World} {us vs : Array Value} {a b : En} (ha : EnC w us a) (hb : EnC w vs b) :
    Calls Try.prog 19 #[.agg us, .agg vs] w fun e w' => e = .returned (.int .i64 (keyCmp a.k b.k)) ∧ Gr w w' := by
  obtain ⟨A, n, c, A', n', c', rfl, h1, h2, h3, h4⟩ := ha
  obtain ⟨B, m, d, B', m', d', rfl, g1, g2, g3, g4⟩ := hb
  have hka : ∀ W, Below w.heap.size w W → KyV W (.agg #[.slice A n c, .int .u64 a.k.seq, .int .i64 a.k.kind]) a.k := fun W hb => ⟨_, _, _, rfl, h1.below hb, h2⟩
  have hkb : ∀ W, Below w.heap.size w W → KyV W (.agg #[.slice B m d, .int .u64 b.k.seq, .int .i64 b.k.kind]) b.k := fun W hb => ⟨_, _, _, rfl, g1.below hb, g2⟩
  have HA := Kp.mk hka
  have HB := Kp.mk hkb
  clear h1 h2 h3 h4 g1 g2 g3 g4 hka hkb
  go_enter Try.func19, Try.ntmps19
  go_wp2_with fail
  have hg0 := ((Gr.refl w).alloc (.cells #[.slice A n c, .int .u64 a.k.seq, .int .i64 a.k.kind, .slice A' n' c'] 40)).alloc (.cells #[.slice B m d, .int .u64 b.k.seq, .int .i64 b.k.kind, .slice B' m' d'] 40)
  have hb0 := (alloc_below w (.cells #[.slice A n c, .int .u64 a.k.seq, .int .i64 a.k.kind, .slice A' n' c'] 40)).alloc (by simp) (.cells #[.slice B m d, .int .u64 b.k.seq, .int .i64 b.k.kind, .slice B' m' d'] 40)
  refine (key_compare_g (HA.out _ hb0) (HB.out _ hb0)).mono ?_
  rintro e w1 ⟨rfl, hb1⟩
  have HE := Kp.mk (hg0.trans hb1)
  clear hb0 hb1 hg0
  go_wp2
  go_ret
  exact ⟨rfl, HE.out⟩

/-! ### The row that is sorted -/
structure Dr (w : World) (g n : Nat) (vss : List (Array Value)) : Prop where
  len : vss.length = n
  four : ∀ i, i < n → (vss.getD i #[]).size = 4
  heap : ∃ cs, w.heap[g]? = some (.cells cs 40 (0, 0)) ∧ ∀ i j, i < n → j < 4 → cs[i * 4 + j]? = (vss.getD i #[])[j]?
theorem Dr.cell {w : World} {g n : Nat} {vss : List (Array Value)} (h : Dr w g n vss) {i j : Nat} (hi : i < n) (hj : j < 4) : w.cell? ⟨g, i * 4 + j, none⟩ = (vss.getD i #[])[j]? := by
  obtain ⟨cs, hh, hc⟩ := h.heap
  have h4 := h.four i hi
  have e : (vss.getD i #[])[j]? = some (vss.getD i #[])[j] := Array.getElem?_eq_getElem (by omega)
  rw [e]
  exact cells_top hh _ _ ((hc i j hi hj).trans e)
theorem Dr.free {w : World} {g n : Nat} {vss : List (Array Value)} (h : Dr w g n vss) (k : Nat) : w.frozen? ⟨g, k, none⟩ = false := by
  obtain ⟨cs, hh, hc⟩ := h.heap
  exact free_top hh k
theorem Dr.kept {w W : World} {g n : Nat} {vss : List (Array Value)} (h : Dr w g n vss) (hb : W.heap[g]? = w.heap[g]?) : Dr W g n vss :=
  ⟨h.len, h.four, by rw [hb]; exact h.heap⟩
/-- A whole element is laid. -/
theorem Dr.put {w : World} {g n : Nat} {vss : List (Array Value)} (h : Dr w g n vss) {i : Nat} (hi : i < n) (a b c d : Value) :
    Dr ((((w.setCell ⟨g, i * 4, none⟩ a).setCell ⟨g, i * 4 + 1, none⟩ b).setCell ⟨g, i * 4 + 2, none⟩ c).setCell ⟨g, i * 4 + 3, none⟩ d) g n (vss.set i #[a, b, c, d]) := by
  have hl := h.len
  obtain ⟨cs, hh, hc⟩ := h.heap
  have hlt : ∀ j, j < 4 → i * 4 + j < cs.size := fun j hj => by
    have h4 := h.four i hi
    have e : (vss.getD i #[])[j]? = some (vss.getD i #[])[j] := Array.getElem?_eq_getElem (by omega)
    exact (Array.getElem?_eq_some_iff.1 ((hc i j hi hj).trans e)).1
  refine ⟨by rw [List.length_set]; exact hl, fun k hk => ?_, ?_⟩
  · by_cases hki : i = k
    · subst hki
      simp [List.getD, List.getElem?_set_self (show i < vss.length by omega)]
    · rw [List.getD_eq_getElem?_getD, List.getElem?_set_ne hki, ← List.getD_eq_getElem?_getD]
      exact h.four k hk
  · have h1 := heap_setCell_same _ _ (i * 4) _ _ a hh
    have h2 := heap_setCell_same _ _ (i * 4 + 1) _ _ b h1
    have h3 := heap_setCell_same _ _ (i * 4 + 2) _ _ c h2
    have h4 := heap_setCell_same _ _ (i * 4 + 3) _ _ d h3
    refine ⟨_, h4, fun k j hk hj => ?_⟩
    have l0 := hlt 0 (by omega)
    have l1 := hlt 1 (by omega)
    have l2 := hlt 2 (by omega)
    have l3 := hlt 3 (by omega)
    by_cases hki : k = i
    · subst hki
      have hv : (vss.set k #[a, b, c, d]).getD k #[] = #[a, b, c, d] := by simp [List.getD, List.getElem?_set_self (show k < vss.length by omega)]
      rw [hv]
      match j, hj with
      | 0, _ => simp [Array.getElem?_setIfInBounds]; omega
      | 1, _ => simp [Array.getElem?_setIfInBounds, l1]
      | 2, _ => simp [Array.getElem?_setIfInBounds, l2]
      | 3, _ => simp [Array.getElem?_setIfInBounds, l3]
    · have hv : (vss.set i #[a, b, c, d]).getD k #[] = vss.getD k #[] := by rw [List.getD_eq_getElem?_getD, List.getElem?_set_ne (fun e => hki e.symm), ← List.getD_eq_getElem?_getD]
      rw [hv, ← hc k j hk hj]
      simp only [Array.set!_eq_setIfInBounds, Array.getElem?_setIfInBounds]
      rw [if_neg (by omega), if_neg (by omega), if_neg (by omega), if_neg (by omega)]
end Go.Proofs.Ytpgkpigpehehmaa.Bas
