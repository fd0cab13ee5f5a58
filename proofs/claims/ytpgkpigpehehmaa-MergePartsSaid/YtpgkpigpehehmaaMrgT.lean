import Derived.Test.YtpgkpigpehehmaaMrgS
set_option linter.unusedVariables false
set_option linter.unusedSimpArgs false
namespace Go.Proofs.Ytpgkpigpehehmaa.Bas
open Go.RowKit Go.Maps Go.Sort Go.Shelf

set_option maxHeartbeats 2000000 in
set_option maxRecDepth 100000 in
theorem copy_any {w : World} {vs : Array Value} {e : En} (h : EnC w vs e) : Calls Try.prog 23 #[.agg vs] w fun en w' => ∃ vs', en = .returned (.agg vs') ∧ EnC w' vs' e ∧ Below w.heap.size w w' ∧ NewV w.heap.size vs' := by
  obtain ⟨A, n, c, A', n', c', rfl, h1, h2, h3, h4⟩ := h
  obtain ⟨W1, hW1⟩ : ∃ W1, W1 = (w.alloc (.cells #[.slice A n c, .int .u64 e.k.seq, .int .i64 e.k.kind, .slice A' n' c'] 40)).alloc (.cells #[.slice none 0 0, .int .u64 0, .int .i64 0, .slice none 0 0] 40) := ⟨_, rfl⟩
  have hb1 : Below w.heap.size w W1 := by rw [hW1]; exact (alloc_below w _).alloc (by simp) _
  have g0 : W1.heap[w.heap.size]? = some (.cells #[.slice A n c, .int .u64 e.k.seq, .int .i64 e.k.kind, .slice A' n' c'] 40) := by rw [hW1]; exact ((alloc_below _ _).block _ (by simp)).trans (heap_alloc_new w _)
  have g1 : W1.heap[w.heap.size + 1]? = some (.cells #[.slice none 0 0, .int .u64 0, .int .i64 0, .slice none 0 0] 40) := by
    rw [hW1]
    have := heap_alloc_new (w.alloc (.cells #[.slice A n c, .int .u64 e.k.seq, .int .i64 e.k.kind, .slice A' n' c'] 40)) (.cells #[.slice none 0 0, .int .u64 0, .int .i64 0, .slice none 0 0] 40)
    simpa using this
  have hz : W1.heap.size = w.heap.size + 2 := by rw [hW1]; simp
  have hl : (0 + n) * 1 ≤ 140737488355328 := by have := h1.max; omega
  have hl' : (0 + n') * 1 ≤ 140737488355328 := by have := h3.max; omega
  have R1 := Kp.mk (h1.below hb1)
  have R3 := Kp.mk (h3.below hb1)
  have L3 := Kp.mk h3.lt
  have H2 := Kp.mk h2
  have H4 := Kp.mk h4
  have G0 := Kp.mk g0
  have G1 := Kp.mk g1
  have B1 := Kp.mk hb1
  have HW1 := Kp.mk hW1
  have Hz := Kp.mk hz
  have Hl := Kp.mk hl
  have Hl' := Kp.mk hl'
  have o0 : ∀ (W : World) (B : Nat), W.ownsRow B 5 1 (.slice none 0 0) 0 (nums .u8 []) := fun W B => ⟨rfl, .inl ⟨rfl, rfl⟩⟩
  have O0 := Kp.mk o0
  clear h1 h2 h3 h4 hb1 g0 g1 hz hl hl' o0 hW1
  go_enter Try.func23, Try.ntmps23
  go_wp2_with (first
    | (at_builtin; refine wpList_append_rd _ rfl (.const (.slice none 0 0)) (.tmp 5) 35 5 .u8 1 W1.heap.size rfl Try.underlying35 Try.infoU8 (by decide) (.slice none 0 0) 0 n c [] e.k.key A rfl rfl (O0.out _ _) (by rw [← HW1.out]; exact R1.out) Hl.out (by rw [← HW1.out]; exact Nat.le_refl _) ?_; intro A1 c1 w2 hown hg hat; rw [← HW1.out] at hg; simp only [Nat.zero_add, List.nil_append] at hown hat ⊢; have Ow1 := Kp.mk (own_rd hown (by have := R1.out.max; omega)); have Hg1 : Kp (W1.grownBy w2 none) := ⟨hg⟩; have K0 := Kp.mk ((Hg1.out.block w.heap.size (by have := Hz.out; omega) (by simp)).trans G0.out); have K1 := Kp.mk ((Hg1.out.block (w.heap.size + 1) (by have := Hz.out; omega) (by simp)).trans G1.out); have c0 := cells_top K0.out 0 _ rfl; have c1' := cells_top K0.out 1 _ rfl; have c2 := cells_top K0.out 2 _ rfl; have c3 := cells_top K0.out 3 _ rfl; have f0 := free_top K0.out 0; have f3 := free_top K0.out 3; have B2 := Kp.mk (B1.out.grown Hg1.out B1.out.size (fun k hk => by cases hk)); have R3' := Kp.mk (R3.out.below (show Below W1.heap.size W1 w2 from (Below.refl _ _).grown Hg1.out (Nat.le_refl _) (fun k hk => by cases hk))); clear hown hg hat; have F2 : Kp (Fr w2 (w2.setCell ⟨w.heap.size, 0, none⟩ (.slice A1 n c1)) (fun k => k = w.heap.size)) := ⟨(Fr.refl w2 (fun k => k = w.heap.size)).setCell (a := ⟨w.heap.size, 0, none⟩) (.inl rfl) _⟩; have R3s := Kp.mk (R3'.out.kept F2.out (fun ad e hn he => by have := L3.out ad e hn; omega)); have R1s := Kp.mk (Ow1.out.1.kept F2.out (fun ad e hn he => by have := (Ow1.out.2 ad e).2.1; have := Hz.out; omega)); have N1 := Kp.mk (fun ad e => (Ow1.out.2 ad e).2.1); have K0s := Kp.mk (heap_setCell_same w2 _ 0 _ _ (.slice A1 n c1) K0.out); have K1s := Kp.mk ((heap_setCell_other w2 ⟨w.heap.size, 0, none⟩ (w.heap.size + 1) (.slice A1 n c1) (by simp)).trans K1.out); have Sz2 : Kp (w.heap.size + 2 ≤ (w2.setCell ⟨w.heap.size, 0, none⟩ (.slice A1 n c1)).heap.size) := ⟨by have := Hg1.out.size; have := Hz.out; simp [World.setCell]; omega⟩; have B2s : Kp (Below w.heap.size w (w2.setCell ⟨w.heap.size, 0, none⟩ (.slice A1 n c1))) := ⟨B2.out.trans (F2.out.toBelow (fun k hk => Nat.le_of_eq hk.symm) B2.out.size)⟩)
    | (at_builtin; refine wpList_append_rd _ rfl (.const (.slice none 0 0)) (.tmp 10) 35 5 .u8 1 (w.heap.size + 2) rfl Try.underlying35 Try.infoU8 (by decide) (.slice none 0 0) 0 n' c' [] e.val A' rfl rfl (O0.out _ _) R3s.out Hl'.out Sz2.out ?_; intro A2 c2' w3 hown hg hat; simp only [Nat.zero_add, List.nil_append] at hown hat ⊢; have Ow2 := Kp.mk (own_rd hown (by have := R3.out.max; omega)); have Hg2 : Kp ((w2.setCell ⟨w.heap.size, 0, none⟩ (.slice A1 n c1)).grownBy w3 none) := ⟨hg⟩; have B3 : Kp (Below (w2.setCell ⟨w.heap.size, 0, none⟩ (.slice A1 n c1)).heap.size (w2.setCell ⟨w.heap.size, 0, none⟩ (.slice A1 n c1)) w3) := ⟨(Below.refl _ _).grown Hg2.out (Nat.le_refl _) (fun k hk => by cases hk)⟩; have K2 := Kp.mk ((B3.out.block w.heap.size (by have := Sz2.out; omega)).trans K0s.out); have K3 := Kp.mk ((B3.out.block (w.heap.size + 1) (by have := Sz2.out; omega)).trans K1s.out); clear c0 c1' c2 c3 f0 f3; have c0 := cells_top K2.out 0 (.slice A1 n c1) rfl; have c1' := cells_top K2.out 1 (.int .u64 e.k.seq) rfl; have c2 := cells_top K2.out 2 (.int .i64 e.k.kind) rfl; have c3 := cells_top K2.out 3 (.slice A' n' c') rfl; have f0 := free_top K2.out 0; have f3 := free_top K2.out 3; have k0 := cells_top K3.out 0 (.slice none 0 0) rfl; have k1 := cells_top K3.out 1 (.int .u64 0) rfl; have k2 := cells_top K3.out 2 (.int .i64 0) rfl; have k3 := cells_top K3.out 3 (.slice none 0 0) rfl; have l0 := free_top K3.out 0; have l1 := free_top K3.out 1; have l2 := free_top K3.out 2; have l3 := free_top K3.out 3; have R1f := Kp.mk (R1s.out.below B3.out); have R2f := Kp.mk Ow2.out.1; have N2 := Kp.mk (fun ad e => (Ow2.out.2 ad e).2.1); have B3w : Kp (Below w.heap.size w w3) := ⟨B2s.out.trans (B3.out.mono B2s.out.size)⟩; have Z3 : Kp (w.heap.size + 2 ≤ w3.heap.size) := ⟨Nat.le_trans Sz2.out B3.out.size⟩; clear hown hg hat))
  have a2 := (heap_setCell_other w3 ⟨w.heap.size, 3, none⟩ (w.heap.size + 1) (.slice A2 n' c2') (by simp)).trans K3.out
  have a3 := heap_setCell_same _ _ 0 _ _ (.slice A1 n c1) a2
  have a4 := heap_setCell_same _ _ 1 _ _ (.int .u64 e.k.seq) a3
  have a5 := heap_setCell_same _ _ 2 _ _ (.int .i64 e.k.kind) a4
  have a6 := heap_setCell_same _ _ 3 _ _ (.slice A2 n' c2') a5
  have hfr : Fr w3 (((((w3.setCell ⟨w.heap.size, 3, none⟩ (.slice A2 n' c2')).setCell ⟨w.heap.size + 1, 0, none⟩ (.slice A1 n c1)).setCell ⟨w.heap.size + 1, 1, none⟩ (.int .u64 e.k.seq)).setCell ⟨w.heap.size + 1, 2, none⟩ (.int .i64 e.k.kind)).setCell ⟨w.heap.size + 1, 3, none⟩ (.slice A2 n' c2')) (fun k => k = w.heap.size ∨ k = w.heap.size + 1) :=
    (((((Fr.refl w3 _).setCell (a := ⟨w.heap.size, 3, none⟩) (.inl (.inl rfl)) _).setCell (a := ⟨w.heap.size + 1, 0, none⟩) (.inl (.inr rfl)) _).setCell (a := ⟨w.heap.size + 1, 1, none⟩) (.inl (.inr rfl)) _).setCell (a := ⟨w.heap.size + 1, 2, none⟩) (.inl (.inr rfl)) _).setCell (a := ⟨w.heap.size + 1, 3, none⟩) (.inl (.inr rfl)) _
  refine bodyPost_ret (results_cell_row rfl _ _ (w.heap.size + 1) _ _ _ _ rfl a6 Try.underlying40 rfl (by kernel_rfl)) rfl ?_
  have hz := Hz.out
  refine ⟨_, rfl, ⟨A1, _, c1, A2, _, c2', rfl, R1f.out.kept hfr (fun ad h0 _ hh => ?_), H2.out, R2f.out.kept hfr (fun ad h0 _ hh => ?_), H4.out⟩, B3w.out.trans (hfr.toBelow (fun k hk => by rcases hk with h | h <;> omega) B3w.out.size), ?_⟩
  · have := N1.out ad h0
    omega
  · have := N2.out ad h0
    omega
  · intro A n c hm
    simp at hm
    rcases hm with ⟨h, _, _⟩ | ⟨h, _, _⟩
    · have := N1.out A h.symm
      omega
    · have := N2.out A h.symm
      omega
end Go.Proofs.Ytpgkpigpehehmaa.Bas
