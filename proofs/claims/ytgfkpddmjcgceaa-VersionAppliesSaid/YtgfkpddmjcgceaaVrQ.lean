import Derived.Test.YtgfkpddmjcgceaaVrP
set_option linter.unusedVariables false
set_option linter.unusedSimpArgs false
namespace Go.Proofs.Ytgfkpddmjcgceaa.Kx
open Go.RowKit Go.Maps Go.Proofs.YtgfkpddmjcgceaaW.PrintWords

theorem num_any (x : Int) (w : World) : Calls Try.prog 12 #[.int .i64 x] w fun e w' => e = .returned (.int .i64 x) ∧ w' = w := by
  go_enter Try.func12, Try.ntmps12
  go_wp2
  go_ret
  exact ⟨rfl, rfl⟩
theorem one_byte {W : World} {g : Nat} {b : Int} {t : TypeId} {fr : Nat × Nat} (h : W.heap[g]? = some (.cells #[.int .u8 b] t fr)) : By W (some ⟨g, 0, none⟩) [b] :=
  Kd.C_of_reads (enc := Value.int .u8) (d := (0 : Int)) (h1 := fun _ => rfl) ⟨rfl, by simp, fun _ => ⟨_, rfl, fun j hj => by
    have hj0 : j = 0 := by simp at hj; omega
    subst hj0
    have := cell_of_row W g 0 #[.int .u8 b] t fr h
    rw [add_plain]
    exact this⟩⟩
def RunQ (f s : Int) (w : World) (e : Ending) (w' : World) : Prop := ∃ g1 g2 : Nat, e = .returned (.agg #[.int .i64 f, .int .i64 10, .int .i64 1, .slice (some ⟨g1, 0, none⟩) 1 1, .slice (some ⟨g2, 0, none⟩) 1 1, .int .u64 s]) ∧ By w' (some ⟨g1, 0, none⟩) [97] ∧ By w' (some ⟨g2, 0, none⟩) [98] ∧ Below w.heap.size w w'
set_option maxHeartbeats 1000000 in
set_option maxRecDepth 100000 in
theorem run_any (f s : Int) (w : World) : Calls Try.prog 14 #[.int .i64 f, .int .u64 s] w (RunQ f s w) := by
  have k1 := Lib.run_convert_bytes_const (P := Try.prog) (w.alloc (.cells #[.int .i64 0, .int .i64 0, .int .i64 0, .slice none 0 0, .slice none 0 0, .int .u64 0] 42)) 40 5 #[.int .u8 97] 1 1 Try.underlying40 Try.underlying5
  rw [show (w.alloc (.cells #[.int .i64 0, .int .i64 0, .int .i64 0, .slice none 0 0, .slice none 0 0, .int .u64 0] 42)).heap.size = w.heap.size + 1 by simp] at k1
  have k2 : (convert 40 40 (.slice (some ⟨w.heap.size + 1 + 1, 0, none⟩) 1 1)).run Try.prog (((w.alloc (.cells #[.int .i64 0, .int .i64 0, .int .i64 0, .slice none 0 0, .slice none 0 0, .int .u64 0] 42)).alloc (.cells #[.int .u8 97] 5 (1, 2))).alloc (.cells #[.int .u8 98] 5)) = .ok (.slice (some ⟨w.heap.size + 1 + 1, 0, none⟩) 1 1) (((w.alloc (.cells #[.int .i64 0, .int .i64 0, .int .i64 0, .slice none 0 0, .slice none 0 0, .int .u64 0] 42)).alloc (.cells #[.int .u8 97] 5 (1, 2))).alloc (.cells #[.int .u8 98] 5 (1, 2))) := by
    have := Lib.run_convert_bytes_const (P := Try.prog) ((w.alloc (.cells #[.int .i64 0, .int .i64 0, .int .i64 0, .slice none 0 0, .slice none 0 0, .int .u64 0] 42)).alloc (.cells #[.int .u8 97] 5 (1, 2))) 40 5 #[.int .u8 98] 1 1 Try.underlying40 Try.underlying5
    rw [show ((w.alloc (.cells #[.int .i64 0, .int .i64 0, .int .i64 0, .slice none 0 0, .slice none 0 0, .int .u64 0] 42)).alloc (.cells #[.int .u8 97] 5 (1, 2))).heap.size = w.heap.size + 1 + 1 by simp] at this
    exact this
  go_enter Try.func14, Try.ntmps14
  go_wp2
  have h1 := blk_alloc (blk_new (w.alloc (.cells #[.int .i64 f, .int .i64 10, .int .i64 1, .slice (some ⟨w.heap.size + 1, 0, none⟩) 1 1, .slice (some ⟨w.heap.size + 1 + 1, 0, none⟩) 1 1, .int .u64 s] 42)) (.cells #[.int .u8 97] 5 (1, 2))) (.cells #[.int .u8 98] 5 (1, 2))
  have h2 := blk_new ((w.alloc (.cells #[.int .i64 f, .int .i64 10, .int .i64 1, .slice (some ⟨w.heap.size + 1, 0, none⟩) 1 1, .slice (some ⟨w.heap.size + 1 + 1, 0, none⟩) 1 1, .int .u64 s] 42)).alloc (.cells #[.int .u8 97] 5 (1, 2))) (.cells #[.int .u8 98] 5 (1, 2))
  rw [show (w.alloc (.cells #[.int .i64 f, .int .i64 10, .int .i64 1, .slice (some ⟨w.heap.size + 1, 0, none⟩) 1 1, .slice (some ⟨w.heap.size + 1 + 1, 0, none⟩) 1 1, .int .u64 s] 42)).heap.size = w.heap.size + 1 by simp] at h1
  rw [show ((w.alloc (.cells #[.int .i64 f, .int .i64 10, .int .i64 1, .slice (some ⟨w.heap.size + 1, 0, none⟩) 1 1, .slice (some ⟨w.heap.size + 1 + 1, 0, none⟩) 1 1, .int .u64 s] 42)).alloc (.cells #[.int .u8 97] 5 (1, 2))).heap.size = w.heap.size + 1 + 1 by simp] at h2
  refine bodyPost_ret (results_cell_row rfl _ _ w.heap.size _ _ _ _ rfl (blk_alloc (blk_alloc (blk_new w _) _) _) Try.underlying42 rfl (by kernel_rfl)) rfl ?_
  exact ⟨_, _, rfl, one_byte h1, one_byte h2, ((alloc_below w _).alloc (by simp) _).alloc (by simp; omega) _⟩

theorem apply_out {rs : List Rn} {nx lg sq : Int} {add : List Rn} {drop : List Int} {enx elg esq : Int} {l : List Rn} {a b c : Int} (h : ApplyR rs nx lg sq add drop enx elg esq 0 l a b c) {a0 : Nat} (h0 : IsAt rs drop a0) :
    l = outL rs add drop a0 ∧ a = laterI nx enx ∧ b = laterI lg elg ∧ c = outS sq esq := by
  rcases h with ⟨h, _⟩ | ⟨_, ⟨h, _⟩ | ⟨_, ⟨h, _⟩ | ⟨_, ⟨h, _⟩ | ⟨_, at', hat, ⟨h, _⟩ | ⟨_, ⟨h, _⟩ | ⟨_, _, h1, h2, h3, h4⟩⟩⟩⟩⟩⟩
  · omega
  · omega
  · omega
  · omega
  · omega
  · omega
  · have := isAt_one hat h0
    subst this
    exact ⟨h1, h2, h3, h4⟩
set_option maxHeartbeats 4000000 in
set_option maxRecDepth 100000 in
theorem alive_any (w : World) : Calls Try.prog 8 #[] w fun e w' => e = .returned (.bool true) ∧ Below w.heap.size w w' := by
  have ha := version_apply (w := w) (A := none) (A1 := none) (A2 := none) (c := 0) (c1 := 0) (c2 := 0) (rs := []) (add := []) (drop := []) 1 0 0 0 0 0 (Kd.C_nil _ _) (Nat.le_refl _) (Kd.C_nil _ _) (Kd.C_nil _ _) (by omega) (by omega)
  have HA := Kp.mk ha
  clear ha
  go_enter Try.func8, Try.ntmps8
  go_wp2_with fail
  refine HA.out.mono ?_
  rintro e w1 ⟨x, l, a, b, c, v, rfl, hR, hv, hb1⟩
  have hx := apply_x hR (a0 := 0) (by decide)
  rw [show applyX [] 1 0 0 [] [] 0 0 0 0 = 0 by decide] at hx
  subst hx
  obtain ⟨h1, h2, h3, h4⟩ := apply_out hR (a0 := 0) (by decide)
  have g1 : l = [] := h1
  have g2 : a = 1 := h2
  have g3 : b = 0 := h3
  have g4 : c = 0 := h4
  subst g1 g2 g3 g4
  obtain ⟨A3, c3, rfl⟩ := Kd.R_slice hv
  have HC := Kp.mk (Kd.R_reads' hv).2.2
  have HB1 := Kp.mk hb1
  clear h1 h2 h3 h4 hR hv hb1 HA
  go_wp2_with fail
  refine (num_any _ _).mono ?_
  rintro e w2 ⟨rfl, rfl⟩
  go_wp2_with fail
  have hR1 := version_right (w := w1.alloc (.cells #[.slice A3 0 c3, .int .i64 1, .int .i64 0, .int .u64 0] 27)) (A := A3) (c := c3) (rs := []) 1 0 0 (Kd.C_alloc HC.out _) (by omega)
  refine hR1.mono ?_
  rintro e w2 ⟨b, rfl, hb, hb2⟩
  have hbt : b = true := hb.2 (by decide)
  subst hbt
  have HB2 := Kp.mk hb2
  clear hb hb2 hR1
  go_wp2_with fail
  have hR2 := version_right (w := w2) (A := none) (c := 0) (rs := []) 0 0 0 (Kd.C_nil _ _) (by omega)
  refine hR2.mono ?_
  rintro e w3 ⟨b, rfl, hb, hb3⟩
  have hbt : b = false := by
    cases b with
    | false => rfl
    | true => exact absurd (hb.1 rfl) (by decide)
  subst hbt
  have HB3 := Kp.mk hb3
  clear hb hb3 hR2
  go_wp2_with fail
  go_ret
  exact ⟨rfl, ((((Fr.of_below (S := fun _ => False) HB1.out).alloc _).below HB2.out).below HB3.out).toBelow (fun k h => h.elim) (Nat.le_refl _)⟩
end Go.Proofs.Ytgfkpddmjcgceaa.Kx
