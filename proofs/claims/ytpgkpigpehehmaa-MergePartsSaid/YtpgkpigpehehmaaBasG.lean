import Derived.Test.YtpgkpigpehehmaaBasF
import Derived.Deep.RegionWith
set_option linter.unusedVariables false
set_option linter.unusedSimpArgs false
namespace Go.Proofs.Ytpgkpigpehehmaa.Bas
open Go.RowKit Go.Maps

theorem Try.infoU8 : (Try.prog.info? 5).map (fun i => (i.zero, i.size, i.bytes)) = some (some (.int .u8 0), 1, 1) := by kernel_rfl
/-- What a copy of bytes leaves: a slice that reads as they do, in new memory. -/
def CloneP (xs : List Int) (w : World) (en : Ending) (w' : World) : Prop :=
  ∃ A' c', en = .returned (.slice A' xs.length c') ∧ Rd w' .u8 A' xs.length c' xs ∧ (∀ ad, A' = some ad → w.heap.size ≤ ad.block) ∧ Below w.heap.size w w'

set_option maxHeartbeats 1000000 in
set_option maxRecDepth 100000 in
theorem bytes_clone {w : World} {A : Option Addr} {n c : Nat} {xs : List Int} (h : Rd w .u8 A n c xs) : Calls Try.prog 30 #[.slice A n c] w (CloneP xs w) := by
  have hl := h.len
  have hm := h.max
  cases A with
  | none =>
    obtain ⟨rfl, rfl⟩ := h.nil rfl
    have hx : xs = [] := List.eq_nil_of_length_eq_zero h.len
    subst hx
    have he : ∀ w, (binOp .eql 35 (.slice none 0 0) (.slice none 0 0)).run Try.prog w = .ok (.bool true) w := fun w => Lib.run_eql_slice_nil w 35 5 none 0 0 0 0 Try.underlying35
    go_enter Try.func30, Try.ntmps30
    go_wp2
    go_ret
    exact ⟨none, 0, rfl, Rd.nil0 _ _, (fun ad e => by cases e), Below.refl _ _⟩
  | some ad =>
    have he : ∀ w, (binOp .eql 35 (.slice (some ad) n c) (.slice none 0 0)).run Try.prog w = .ok (.bool false) w := fun w => Lib.run_eql_slice_nil w 35 5 (some ad) n c 0 0 Try.underlying35
    have H := Kp.mk h
    clear h
    go_enter Try.func30, Try.ntmps30
    go_wp2_with (at_builtin; refine wpList_append_rd _ rfl (.tmp 5) (.tmp 6) 35 5 .u8 1 w.heap.size rfl Try.underlying35 Try.infoU8 (by decide) (.slice (some ⟨w.heap.size, 0, none⟩) 0 0) 0 n c [] xs (some ad) rfl rfl (own_empty w 5) (H.out.below (alloc_below w _)) (by omega) (by simp) ?_; intro A' c' w2 hown2 hg2 hat2; simp only [Nat.zero_add, List.nil_append] at hown2 hat2 ⊢; have Hown2 := Kp.mk hown2; have Hg2 := Kp.mk hg2; clear hown2 hg2 hat2)
    go_ret
    exact ⟨A', c', by rw [hl]; rfl, by rw [hl]; exact (own_rd Hown2.out hm).1, (fun ad e => ((own_rd Hown2.out hm).2 ad e).2.1), (alloc_below w _).grown Hg2.out (by simp) (fun k e => by simp [Value.ownBlock] at e; omega)⟩

/-! ### An entry -/
structure En where
  k : Ky
  val : List Int
/-- How an entry's four cells read. -/
def EnC (w : World) (vs : Array Value) (e : En) : Prop := ∃ A n c A' n' c', vs = #[.slice A n c, .int .u64 e.k.seq, .int .i64 e.k.kind, .slice A' n' c'] ∧ Rd w .u8 A n c e.k.key ∧ Byt e.k.key ∧ Rd w .u8 A' n' c' e.val ∧ Byt e.val
theorem EnC.below {w W : World} {vs : Array Value} {e : En} (h : EnC w vs e) (hb : Below w.heap.size w W) : EnC W vs e := by
  obtain ⟨A, n, c, A', n', c', hv, h1, h2, h3, h4⟩ := h
  exact ⟨A, n, c, A', n', c', hv, h1.below hb, h2, h3.below hb, h4⟩

/-- The slices in a value's cells lie in blocks from B on. -/
def NewV (B : Nat) (vs : Array Value) : Prop := ∀ A n c, Value.slice (some A) n c ∈ vs.toList → B ≤ A.block
set_option maxHeartbeats 1000000 in
set_option maxRecDepth 100000 in
theorem own_any {w : World} {vs : Array Value} {e : En} (h : EnC w vs e) : Calls Try.prog 21 #[.agg vs] w fun en w' => ∃ vs', en = .returned (.agg vs') ∧ EnC w' vs' e ∧ Below w.heap.size w w' ∧ NewV w.heap.size vs' := by
  obtain ⟨A, n, c, A', n', c', rfl, h1, h2, h3, h4⟩ := h
  have H1 := Kp.mk h1
  have H3 := Kp.mk h3
  have H2 := Kp.mk h2
  have H4 := Kp.mk h4
  clear h1 h2 h3 h4
  go_enter Try.func21, Try.ntmps21
  go_wp2_with fail
  have hb0 : Below w.heap.size w (((w.alloc (.cells #[.slice A n c, .int .u64 e.k.seq, .int .i64 e.k.kind, .slice A' n' c'] 40)).alloc (.cells #[.slice none 0 0, .int .u64 0, .int .i64 0, .slice none 0 0] 40)).drew) := ((alloc_below w _).alloc (by simp) _).drew
  have g0 : (((w.alloc (.cells #[.slice A n c, .int .u64 e.k.seq, .int .i64 e.k.kind, .slice A' n' c'] 40)).alloc (.cells #[.slice none 0 0, .int .u64 0, .int .i64 0, .slice none 0 0] 40)).drew).heap[w.heap.size]? = some (.cells #[.slice A n c, .int .u64 e.k.seq, .int .i64 e.k.kind, .slice A' n' c'] 40 (0, 0)) :=
    ((alloc_below _ _).drew.block _ (by simp)).trans (heap_alloc_new w _)
  have k0 : (((w.alloc (.cells #[.slice A n c, .int .u64 e.k.seq, .int .i64 e.k.kind, .slice A' n' c'] 40)).alloc (.cells #[.slice none 0 0, .int .u64 0, .int .i64 0, .slice none 0 0] 40)).drew).heap[w.heap.size + 1]? = some (.cells #[.slice none 0 0, .int .u64 0, .int .i64 0, .slice none 0 0] 40 (0, 0)) := by
    have := heap_alloc_new (w.alloc (.cells #[.slice A n c, .int .u64 e.k.seq, .int .i64 e.k.kind, .slice A' n' c'] 40)) (.cells #[.slice none 0 0, .int .u64 0, .int .i64 0, .slice none 0 0] 40)
    rw [show (w.alloc (.cells #[.slice A n c, .int .u64 e.k.seq, .int .i64 e.k.kind, .slice A' n' c'] 40)).heap.size = w.heap.size + 1 by simp] at this
    exact this
  have R1 := Kp.mk (H1.out.below hb0)
  have K0 := Kp.mk k0
  have B0 := Kp.mk hb0
  have G0 := Kp.mk g0
  clear hb0 g0 k0
  go_region_with (first
    | (go_at_call_of 30 (Value.slice A n c); refine (bytes_clone R1.out).mono ?_; rintro en w1 ⟨A1, e1, rfl, hr1, hn1, hb1⟩; have g1 := (hb1.block w.heap.size (by simp; omega)).trans G0.out; have c0 := cells_top g1 0 _ rfl; have c1 := cells_top g1 1 _ rfl; have c2 := cells_top g1 2 _ rfl; have c3 := cells_top g1 3 _ rfl; have R3 := Kp.mk (H3.out.below (B0.out.trans (hb1.mono B0.out.size))); have B1 := Kp.mk (B0.out.trans (hb1.mono B0.out.size)); have R1' := Kp.mk hr1; have N1 := Kp.mk hn1; have G1 := Kp.mk g1; have K1 := Kp.mk ((hb1.block (w.heap.size + 1) (by simp)).trans K0.out); have Z1 := Kp.mk hb1.size; clear hr1 hb1 g1 hn1)
    | (go_at_call_of 30 (Value.slice A' n' c'); refine (bytes_clone R3.out).mono ?_; rintro en w2 ⟨A2, e2, rfl, hr2, hn2, hb2⟩; have g2 := (hb2.block w.heap.size (by have := Z1.out; simp at this; omega)).trans G1.out; have c0 := cells_top g2 0 _ rfl; have c1 := cells_top g2 1 _ rfl; have c2 := cells_top g2 2 _ rfl; have c3 := cells_top g2 3 _ rfl; have f0 := free_top g2 0; have f3 := free_top g2 3; have B2 := Kp.mk (B1.out.trans (hb2.mono B1.out.size)); have R1'' := Kp.mk (R1'.out.below hb2); have R2 := Kp.mk hr2; have N2 := Kp.mk hn2; have G2 := Kp.mk g2; have k2 := (hb2.block (w.heap.size + 1) (by have := Z1.out; simp at this; omega)).trans K1.out; have K2 := Kp.mk k2; have r0 := cells_top k2 0 _ rfl; have r1 := cells_top k2 1 _ rfl; have r2 := cells_top k2 2 _ rfl; have r3 := cells_top k2 3 _ rfl; have q0 := free_top k2 0; have q1 := free_top k2 1; have q2 := free_top k2 2; have q3 := free_top k2 3; clear hr2 hb2 g2 hn2 k2))
  all_goals
    go_wp2
    have a1 := (heap_setCell_other w2 ⟨w.heap.size, 0, none⟩ (w.heap.size + 1) (.slice A1 e.k.key.length e1) (by simp)).trans K2.out
    have a2 := (heap_setCell_other _ ⟨w.heap.size, 3, none⟩ (w.heap.size + 1) (.slice A2 e.val.length e2) (by simp)).trans a1
    have a3 := heap_setCell_same _ _ 0 _ _ (.slice A1 e.k.key.length e1) a2
    have a4 := heap_setCell_same _ _ 1 _ _ (.int .u64 e.k.seq) a3
    have a5 := heap_setCell_same _ _ 2 _ _ (.int .i64 e.k.kind) a4
    have a6 := heap_setCell_same _ _ 3 _ _ (.slice A2 e.val.length e2) a5
    have hfr : Fr w2 (((((((w2.setCell ⟨w.heap.size, 0, none⟩ (.slice A1 e.k.key.length e1)).setCell ⟨w.heap.size, 3, none⟩ (.slice A2 e.val.length e2)).setCell ⟨w.heap.size + 1, 0, none⟩ (.slice A1 e.k.key.length e1)).setCell ⟨w.heap.size + 1, 1, none⟩ (.int .u64 e.k.seq)).setCell ⟨w.heap.size + 1, 2, none⟩ (.int .i64 e.k.kind)).setCell ⟨w.heap.size + 1, 3, none⟩ (.slice A2 e.val.length e2))) (fun k => k = w.heap.size ∨ k = w.heap.size + 1) :=
      ((((((Fr.refl w2 _).setCell (a := ⟨w.heap.size, 0, none⟩) (.inl (.inl rfl)) _).setCell (a := ⟨w.heap.size, 3, none⟩) (.inl (.inl rfl)) _).setCell (a := ⟨w.heap.size + 1, 0, none⟩) (.inl (.inr rfl)) _).setCell (a := ⟨w.heap.size + 1, 1, none⟩) (.inl (.inr rfl)) _).setCell (a := ⟨w.heap.size + 1, 2, none⟩) (.inl (.inr rfl)) _).setCell (a := ⟨w.heap.size + 1, 3, none⟩) (.inl (.inr rfl)) _
    refine bodyPost_ret (results_cell_row rfl _ _ (w.heap.size + 1) _ _ _ _ rfl a6 Try.underlying40 rfl (by kernel_rfl)) rfl ?_
    refine ⟨_, rfl, ⟨A1, _, e1, A2, _, e2, rfl, R1''.out.kept hfr (fun ad h0 _ hh => ?_), H2.out, R2.out.kept hfr (fun ad h0 _ hh => ?_), H4.out⟩, B2.out.trans (hfr.toBelow (fun k hk => by rcases hk with h | h <;> omega) B2.out.size), ?_⟩
    · have := N1.out ad h0
      simp at this
      omega
    · have := N2.out ad h0
      have := Z1.out
      simp at this
      omega
    · intro A n c hm
      simp at hm
      have := Z1.out
      simp at this
      rcases hm with ⟨h, _, _⟩ | ⟨h, _, _⟩
      · have := N1.out A h.symm
        simp at this
        omega
      · have := N2.out A h.symm
        omega
end Go.Proofs.Ytpgkpigpehehmaa.Bas
