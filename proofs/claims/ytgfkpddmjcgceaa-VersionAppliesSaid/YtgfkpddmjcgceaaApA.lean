import Derived.Test.YtgfkpddmjcgceaaLvE
set_option linter.unusedVariables false
set_option linter.unusedSimpArgs false
namespace Go.Proofs.Ytgfkpddmjcgceaa.Kx
open Go.RowKit Go.Maps Go.Proofs.YtgfkpddmjcgceaaW.PrintWords

set_option maxHeartbeats 4000000 in
set_option maxRecDepth 100000 in
theorem same_runs {w : World} {A A' : Option Addr} {n c c' : Nat} {rs : List Rn} (h : kRn.C w A n rs) (h' : kRn.C w A' n rs) :
    Calls Try.prog 32 #[.slice A n c, .slice A' n c'] w fun e w' => e = .returned (.bool true) ∧ Below w.heap.size w w' := by
  have hm := h.2.1
  have H := Kp.mk h
  have H' := Kp.mk h'
  clear h h'
  go_enter Try.func32, Try.ntmps32
  go_wp2_with fail
  go_loopw [5] (fun i wr => ∃ k : Nat, k ≤ n ∧ i = .int .i64 k ∧ Kp (Below w.heap.size w wr)) (fun i _ => n - (intOf i).toNat)
  case atStart => exact ⟨0, Nat.zero_le _, rfl, ⟨Below.refl _ _⟩⟩
  case round =>
    obtain ⟨k, hk, rfl, HB⟩ := hrel
    by_cases hlt : k < n
    · have hki : (k : Int) < (n : Int) := by omega
      obtain ⟨ad, A3, c3, A4, c4, e1, d0, d1, d2, d3, d4, d5, _, g3, _, g4⟩ := rn_at (Kd.C_below H.out HB.out) k hlt
      obtain ⟨ad', B3, b3, B4, b4, e2, f0, f1, f2, f3, f4, f5, _, g5, _, g6⟩ := rn_at (Kd.C_below H'.out HB.out) k hlt
      subst e1
      subst e2
      obtain ⟨r, hr⟩ : ∃ r, rs.getD k zRn = r := ⟨_, rfl⟩
      rw [hr] at d0 d1 d2 d3 d4 d5 f0 f1 f2 f3 f4 f5 g3 g4 g5 g6
      clear hr
      have f0' := pw_cell_below (alloc_below wr (.cells #[.int .i64 r.file, .int .i64 r.bytes, .int .i64 r.count, .slice A3 r.first.length c3, .slice A4 r.last.length c4, .int .u64 r.seq] 42)) f0
      have f1' := pw_cell_below (alloc_below wr (.cells #[.int .i64 r.file, .int .i64 r.bytes, .int .i64 r.count, .slice A3 r.first.length c3, .slice A4 r.last.length c4, .int .u64 r.seq] 42)) f1
      have f2' := pw_cell_below (alloc_below wr (.cells #[.int .i64 r.file, .int .i64 r.bytes, .int .i64 r.count, .slice A3 r.first.length c3, .slice A4 r.last.length c4, .int .u64 r.seq] 42)) f2
      have f3' := pw_cell_below (alloc_below wr (.cells #[.int .i64 r.file, .int .i64 r.bytes, .int .i64 r.count, .slice A3 r.first.length c3, .slice A4 r.last.length c4, .int .u64 r.seq] 42)) f3
      have f4' := pw_cell_below (alloc_below wr (.cells #[.int .i64 r.file, .int .i64 r.bytes, .int .i64 r.count, .slice A3 r.first.length c3, .slice A4 r.last.length c4, .int .u64 r.seq] 42)) f4
      have f5' := pw_cell_below (alloc_below wr (.cells #[.int .i64 r.file, .int .i64 r.bytes, .int .i64 r.count, .slice A3 r.first.length c3, .slice A4 r.last.length c4, .int .u64 r.seq] 42)) f5
      have HWs := Kp.mk HB.out.size
      have HB2 := Kp.mk ((HB.out.alloc HWs.out (.cells #[.int .i64 r.file, .int .i64 r.bytes, .int .i64 r.count, .slice A3 r.first.length c3, .slice A4 r.last.length c4, .int .u64 r.seq] 42)).alloc (by simp; exact Nat.le_succ_of_le HWs.out) (.cells #[.int .i64 r.file, .int .i64 r.bytes, .int .i64 r.count, .slice B3 r.first.length b3, .slice B4 r.last.length b4, .int .u64 r.seq] 42))
      have s3 := Kd.C_string (P := Try.prog) (dst := 9) (c := c3) Try.underlying40 Try.underlying5 Try.underlying9 (Kd.C_alloc (Kd.C_alloc g3 (.cells #[.int .i64 r.file, .int .i64 r.bytes, .int .i64 r.count, .slice A3 r.first.length c3, .slice A4 r.last.length c4, .int .u64 r.seq] 42)) (.cells #[.int .i64 r.file, .int .i64 r.bytes, .int .i64 r.count, .slice B3 r.first.length b3, .slice B4 r.last.length b4, .int .u64 r.seq] 42))
      have s4 := Kd.C_string (P := Try.prog) (dst := 9) (c := c4) Try.underlying40 Try.underlying5 Try.underlying9 (Kd.C_alloc (Kd.C_alloc g4 (.cells #[.int .i64 r.file, .int .i64 r.bytes, .int .i64 r.count, .slice A3 r.first.length c3, .slice A4 r.last.length c4, .int .u64 r.seq] 42)) (.cells #[.int .i64 r.file, .int .i64 r.bytes, .int .i64 r.count, .slice B3 r.first.length b3, .slice B4 r.last.length b4, .int .u64 r.seq] 42))
      have s5 := Kd.C_string (P := Try.prog) (dst := 9) (c := b3) Try.underlying40 Try.underlying5 Try.underlying9 (Kd.C_alloc (Kd.C_alloc g5 (.cells #[.int .i64 r.file, .int .i64 r.bytes, .int .i64 r.count, .slice A3 r.first.length c3, .slice A4 r.last.length c4, .int .u64 r.seq] 42)) (.cells #[.int .i64 r.file, .int .i64 r.bytes, .int .i64 r.count, .slice B3 r.first.length b3, .slice B4 r.last.length b4, .int .u64 r.seq] 42))
      have s6 := Kd.C_string (P := Try.prog) (dst := 9) (c := b4) Try.underlying40 Try.underlying5 Try.underlying9 (Kd.C_alloc (Kd.C_alloc g6 (.cells #[.int .i64 r.file, .int .i64 r.bytes, .int .i64 r.count, .slice A3 r.first.length c3, .slice A4 r.last.length c4, .int .u64 r.seq] 42)) (.cells #[.int .i64 r.file, .int .i64 r.bytes, .int .i64 r.count, .slice B3 r.first.length b3, .slice B4 r.last.length b4, .int .u64 r.seq] 42))
      obtain ⟨z3, hz3⟩ : ∃ z, strOfNums r.first = z := ⟨_, rfl⟩
      obtain ⟨z4, hz4⟩ : ∃ z, strOfNums r.last = z := ⟨_, rfl⟩
      rw [hz3] at s3 s5
      rw [hz4] at s4 s6
      clear g3 g4 g5 g6 hz3 hz4
      go_wp2_with fail
      go_roundw
      case rel => exact ⟨k + 1, by omega, by go_num, HB2⟩
      case measure => simp [intOf]; omega
    · go_wp2
      go_ret
      exact ⟨rfl, HB.out⟩
theorem nest2' {w W : World} {o1 o2 : Obj} (h : Below ((w.alloc o1).alloc o2).heap.size ((w.alloc o1).alloc o2) W) : Below w.heap.size w W ∧ W.heap[w.heap.size]? = some o1 ∧ W.heap[w.heap.size + 1]? = some o2 := by
  have g2 : W.heap[(w.alloc o1).heap.size]? = some o2 := heap_newb h
  rw [show (w.alloc o1).heap.size = w.heap.size + 1 by simp] at g2
  exact ⟨((alloc_below w o1).alloc (by simp) o2).trans (h.mono (by simp; omega)), (h.block _ (by simp; omega)).trans (blk_alloc (blk_new w o1) o2), g2⟩
set_option maxHeartbeats 4000000 in
set_option maxRecDepth 100000 in
theorem same_version {w : World} {A A' : Option Addr} {n c c' : Nat} {rs : List Rn} (a b d : Int) (h : kRn.C w A n rs) (h' : kRn.C w A' n rs) :
    Calls Try.prog 13 #[.agg #[.slice A n c, .int .i64 a, .int .i64 b, .int .u64 d], .agg #[.slice A' n c', .int .i64 a, .int .i64 b, .int .u64 d]] w fun e w' => e = .returned (.bool true) ∧ Below w.heap.size w w' := by
  have H := Kp.mk h
  have H' := Kp.mk h'
  clear h h'
  go_enter Try.func13, Try.ntmps13
  go_wp2_with fail
  refine (same_runs (Kd.C_alloc (Kd.C_alloc H.out _) _) (Kd.C_alloc (Kd.C_alloc H'.out _) _)).mono ?_
  rintro e w1 ⟨rfl, hb1⟩
  have HB := Kp.mk hb1
  obtain ⟨h0, g0, g1⟩ := nest2' hb1
  have k0 := cells_top g0 0 (.slice A n c) rfl
  have k1 := cells_top g0 1 (.int .i64 a) rfl
  have k2 := cells_top g0 2 (.int .i64 b) rfl
  have k3 := cells_top g0 3 (.int .u64 d) rfl
  have j0 := cells_top g1 0 (.slice A' n c') rfl
  have j1 := cells_top g1 1 (.int .i64 a) rfl
  have j2 := cells_top g1 2 (.int .i64 b) rfl
  have j3 := cells_top g1 3 (.int .u64 d) rfl
  have H0 := Kp.mk h0
  clear h0 g0 g1 hb1
  go_wp2_with fail
  go_ret
  exact ⟨rfl, H0.out⟩
end Go.Proofs.Ytgfkpddmjcgceaa.Kx
