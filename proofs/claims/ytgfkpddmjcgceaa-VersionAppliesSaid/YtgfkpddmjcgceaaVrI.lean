import Derived.Test.YtgfkpddmjcgceaaVrG
import Derived.Test.YtgfkpddmjcgceaaVrH
set_option linter.unusedVariables false
set_option linter.unusedSimpArgs false
namespace Go.Proofs.Ytgfkpddmjcgceaa.Kx
open Go.RowKit Go.Maps Go.Proofs.YtgfkpddmjcgceaaW.PrintWords

set_option maxHeartbeats 8000000 in
set_option maxRecDepth 100000 in
theorem ref_version {w : World} {A : Option Addr} {c : Nat} {rs : List Rn} (nx lg sq : Int) (h : kRn.C w A rs.length rs) (hbyt : BytRs rs) :
    Calls Try.prog 17 #[.agg #[.slice A rs.length c, .int .i64 nx, .int .i64 lg, .int .u64 sq]] w (AnyQ (VOk rs nx lg sq) w) := by
  have HBy := Kp.mk hbyt
  obtain ⟨n, hn⟩ : ∃ n, n = rs.length := ⟨_, rfl⟩
  rw [← hn] at h ⊢
  have Hn := Kp.mk hn
  have H := Kp.mk h
  by_cases hd : vHead n nx lg sq
  · have Hd := Kp.mk hd
    obtain ⟨d1, d2, d3, d4, d5, d6⟩ := hd
    clear h hn hbyt
    go_enter Try.func17, Try.ntmps17
    go_wp2_with fail
    refine (ref_files (Kd.C_alloc H.out _) (by omega)).mono ?_
    rintro e w1 ⟨v1, rfl, hR1, hb1⟩
    obtain ⟨fs, hfs⟩ : ∃ fs, fs = rs.map Rn.file := ⟨_, rfl⟩
    rw [← hfs] at hR1
    have Hfs := Kp.mk hfs
    clear hfs
    obtain ⟨A1, c1, rfl, hl1, hC1⟩ := Kd.R_reads hR1
    have HX1 := Kp.mk (heap_newb hb1)
    have HB1 := Kp.mk (below_then (alloc_below w _) (by simp) hb1)
    have HL1 := Kp.mk hl1
    have HC1 := Kp.mk hC1
    clear hR1 hb1 hl1 hC1
    go_wp2_with fail
    refine (ref_once HC1.out HL1.out).mono ?_
    rintro e w2 ⟨b2, rfl, hb, hb2⟩
    have HX2 := Kp.mk ((hb2.block _ (lt_of_block HX1.out)).trans HX1.out)
    have HB2 := Kp.mk (below_then HB1.out HB1.out.size hb2)
    have Hb := Kp.mk hb
    clear hb hb2
    cases b2 with
    | false =>
      have hv : Kp (false = true ↔ VOk rs nx lg sq) := ⟨⟨(fun h => by cases h), fun h => by have := Hb.out.2 (by rw [Hfs.out]; exact h.2.1); cases this⟩⟩
      clear Hb
      go_wp2_with fail
      go_ret
      exact ⟨_, rfl, hv.out, HB2.out⟩
    | true =>
      have Hb1 := Kp.mk (Hb.out.1 rfl)
      rw [Hfs.out] at Hb1
      clear Hb
      go_wp2_with fail
      go_loopw [3] (fun i wr => ∃ k : Nat, k ≤ n ∧ i = .int .i64 k ∧ Kp (∀ j, j < k → rowOk rs nx sq j) ∧ Kp (wr.heap[w.heap.size]? = some (.cells #[.slice A n c, .int .i64 nx, .int .i64 lg, .int .u64 sq] 27 (0, 0))) ∧ Kp (Below w.heap.size w wr)) (fun i _ => n - (intOf i).toNat)
      case atStart => exact ⟨0, Nat.zero_le _, rfl, ⟨by omega⟩, HX2, HB2⟩
      case round =>
        obtain ⟨k, hk, rfl, HN1, HX, HB⟩ := hrel
        have b0 := cells_top HX.out 0 _ rfl
        have b1 := cells_top HX.out 1 _ rfl
        have b3 := cells_top HX.out 3 _ rfl
        have HWs := Kp.mk HB.out.size
        by_cases hlt : k < n
        · obtain ⟨ad, A3, c3, A4, c4, rfl, c0, c1, c2, c3', c4', c5, _, g3, _, g4⟩ := rn_at (Kd.C_below H.out HB.out) k hlt
          have Hby := Kp.mk (HBy.out k (by have := Hn.out; omega))
          obtain ⟨r, hr⟩ : ∃ r, rs.getD k zRn = r := ⟨_, rfl⟩
          rw [hr] at c0 c1 c2 c3' c4' c5 g3 g4 Hby
          have Hr := Kp.mk hr
          have G3 := Kp.mk g3
          have G4 := Kp.mk g4
          clear hr g3 g4
          have hne : w.heap.size ≠ wr.heap.size := by have := lt_of_block HX.out; omega
          by_cases e1 : rnOk r
          · have hd1 : Kp (decide (rnOk r) = true) := ⟨decide_eq_true e1⟩
            have He1 := Kp.mk e1
            clear e1
            by_cases e3 : r.file < nx
            · rcases Nat.eq_zero_or_pos k with hk0 | hk0
              · have hz1 : ((k : Int) == 0) = true := by simp [hk0]
                have hz2 : decide (0 < (k : Int)) = false := by simp [hk0]
                have hz3 : decide (0 < k) = false := by simp [hk0]
                have hkp : k ≤ 0 := by omega
                have Hk0 := Kp.mk hk0
                clear hk0
                by_cases e4 : r.seq ≤ sq
                · have hv1 : Kp (∀ j, j < k + 1 → rowOk rs nx sq j) := ⟨fun j hj => by
                    have : j = 0 := by omega
                    subst this
                    have hr0 := Hr.out
                    rw [Hk0.out] at hr0
                    unfold rowOk aboveOf
                    rw [hr0]
                    exact ⟨He1.out, e3, e4⟩⟩
                  go_wp2_with fail
                  have q0 := blw_cell (cell_new wr _ _ 0 _ rfl : (wr.alloc (.cells #[.int .i64 r.file, .int .i64 r.bytes, .int .i64 r.count, .slice A3 r.first.length c3, .slice A4 r.last.length c4, .int .u64 r.seq] 42)).cell? ⟨wr.heap.size, 0, none⟩ = some _)
                  have q1 := blw_cell (cell_new wr _ _ 1 _ rfl : (wr.alloc (.cells #[.int .i64 r.file, .int .i64 r.bytes, .int .i64 r.count, .slice A3 r.first.length c3, .slice A4 r.last.length c4, .int .u64 r.seq] 42)).cell? ⟨wr.heap.size, 1, none⟩ = some _)
                  have q2 := blw_cell (cell_new wr _ _ 2 _ rfl : (wr.alloc (.cells #[.int .i64 r.file, .int .i64 r.bytes, .int .i64 r.count, .slice A3 r.first.length c3, .slice A4 r.last.length c4, .int .u64 r.seq] 42)).cell? ⟨wr.heap.size, 2, none⟩ = some _)
                  have q3 := blw_cell (cell_new wr _ _ 3 _ rfl : (wr.alloc (.cells #[.int .i64 r.file, .int .i64 r.bytes, .int .i64 r.count, .slice A3 r.first.length c3, .slice A4 r.last.length c4, .int .u64 r.seq] 42)).cell? ⟨wr.heap.size, 3, none⟩ = some _)
                  have q4 := blw_cell (cell_new wr _ _ 4 _ rfl : (wr.alloc (.cells #[.int .i64 r.file, .int .i64 r.bytes, .int .i64 r.count, .slice A3 r.first.length c3, .slice A4 r.last.length c4, .int .u64 r.seq] 42)).cell? ⟨wr.heap.size, 4, none⟩ = some _)
                  have q5 := blw_cell (cell_new wr _ _ 5 _ rfl : (wr.alloc (.cells #[.int .i64 r.file, .int .i64 r.bytes, .int .i64 r.count, .slice A3 r.first.length c3, .slice A4 r.last.length c4, .int .u64 r.seq] 42)).cell? ⟨wr.heap.size, 5, none⟩ = some _)
                  have x0 := blw_cell (pw_cell_below (alloc_below wr (.cells #[.int .i64 r.file, .int .i64 r.bytes, .int .i64 r.count, .slice A3 r.first.length c3, .slice A4 r.last.length c4, .int .u64 r.seq] 42)) b0)
                  have x1 := blw_cell (pw_cell_below (alloc_below wr (.cells #[.int .i64 r.file, .int .i64 r.bytes, .int .i64 r.count, .slice A3 r.first.length c3, .slice A4 r.last.length c4, .int .u64 r.seq] 42)) b1)
                  have x3 := blw_cell (pw_cell_below (alloc_below wr (.cells #[.int .i64 r.file, .int .i64 r.bytes, .int .i64 r.count, .slice A3 r.first.length c3, .slice A4 r.last.length c4, .int .u64 r.seq] 42)) b3)
                  refine wp_region_below (by kernel_rfl) (by kernel_rfl) ?_
                  repeat (first | go_big_quiet_step ((go_at_call 36; exact calls_blw ((ref_run (r := r) (Kd.C_below (Kd.C_alloc G3.out _) (Blw.h _)) (Kd.C_below (Kd.C_alloc G4.out _) (Blw.h _)) Hby.out.1 Hby.out.2).mono (fun e w' h => ⟨by rw [h.1, hd1.out], h.2⟩)))) | quiet_step ((go_at_call 36; exact calls_blw ((ref_run (r := r) (Kd.C_below (Kd.C_alloc G3.out _) (Blw.h _)) (Kd.C_below (Kd.C_alloc G4.out _) (Blw.h _)) Hby.out.1 Hby.out.2).mono (fun e w' h => ⟨by rw [h.1, hd1.out], h.2⟩)))))
                  refine wpQuiet_nil ?_
                  rintro _ ⟨pq, rfl⟩
                  have HB4 := Kp.mk (HB.out.trans (((alloc_below wr _).trans (pq.h.mono (by simp))).mono HWs.out))
                  have HX4 := Kp.mk ((pq.h.block w.heap.size (by have := lt_of_block HX.out; simp; omega)).trans (((alloc_below wr _).block _ (lt_of_block HX.out)).trans HX.out))
                  clear q0 q1 q2 q3 q4 q5 x0 x1 x3
                  go_wp2_with fail
                  go_roundw
                  case rel => exact ⟨k + 1, by omega, by go_num, hv1, HX4, HB4⟩
                  case measure => simp [intOf]; omega
                · have hv : Kp (false = true ↔ VOk rs nx lg sq) := ⟨⟨(fun h => by cases h), fun h => by
                    have h2 := (h.2.2 k (by rw [← Hn.out]; exact hlt)).2.2
                    have hr0 := Hr.out
                    rw [Hk0.out] at hr0 h2
                    unfold aboveOf at h2
                    rw [hr0] at h2
                    exact absurd h2 e4⟩⟩
                  have e4' : sq < r.seq := by omega
                  clear e4
                  go_wp2_with fail
                  have q0 := blw_cell (cell_new wr _ _ 0 _ rfl : (wr.alloc (.cells #[.int .i64 r.file, .int .i64 r.bytes, .int .i64 r.count, .slice A3 r.first.length c3, .slice A4 r.last.length c4, .int .u64 r.seq] 42)).cell? ⟨wr.heap.size, 0, none⟩ = some _)
                  have q1 := blw_cell (cell_new wr _ _ 1 _ rfl : (wr.alloc (.cells #[.int .i64 r.file, .int .i64 r.bytes, .int .i64 r.count, .slice A3 r.first.length c3, .slice A4 r.last.length c4, .int .u64 r.seq] 42)).cell? ⟨wr.heap.size, 1, none⟩ = some _)
                  have q2 := blw_cell (cell_new wr _ _ 2 _ rfl : (wr.alloc (.cells #[.int .i64 r.file, .int .i64 r.bytes, .int .i64 r.count, .slice A3 r.first.length c3, .slice A4 r.last.length c4, .int .u64 r.seq] 42)).cell? ⟨wr.heap.size, 2, none⟩ = some _)
                  have q3 := blw_cell (cell_new wr _ _ 3 _ rfl : (wr.alloc (.cells #[.int .i64 r.file, .int .i64 r.bytes, .int .i64 r.count, .slice A3 r.first.length c3, .slice A4 r.last.length c4, .int .u64 r.seq] 42)).cell? ⟨wr.heap.size, 3, none⟩ = some _)
                  have q4 := blw_cell (cell_new wr _ _ 4 _ rfl : (wr.alloc (.cells #[.int .i64 r.file, .int .i64 r.bytes, .int .i64 r.count, .slice A3 r.first.length c3, .slice A4 r.last.length c4, .int .u64 r.seq] 42)).cell? ⟨wr.heap.size, 4, none⟩ = some _)
                  have q5 := blw_cell (cell_new wr _ _ 5 _ rfl : (wr.alloc (.cells #[.int .i64 r.file, .int .i64 r.bytes, .int .i64 r.count, .slice A3 r.first.length c3, .slice A4 r.last.length c4, .int .u64 r.seq] 42)).cell? ⟨wr.heap.size, 5, none⟩ = some _)
                  have x0 := blw_cell (pw_cell_below (alloc_below wr (.cells #[.int .i64 r.file, .int .i64 r.bytes, .int .i64 r.count, .slice A3 r.first.length c3, .slice A4 r.last.length c4, .int .u64 r.seq] 42)) b0)
                  have x1 := blw_cell (pw_cell_below (alloc_below wr (.cells #[.int .i64 r.file, .int .i64 r.bytes, .int .i64 r.count, .slice A3 r.first.length c3, .slice A4 r.last.length c4, .int .u64 r.seq] 42)) b1)
                  have x3 := blw_cell (pw_cell_below (alloc_below wr (.cells #[.int .i64 r.file, .int .i64 r.bytes, .int .i64 r.count, .slice A3 r.first.length c3, .slice A4 r.last.length c4, .int .u64 r.seq] 42)) b3)
                  refine wp_region_below (by kernel_rfl) (by kernel_rfl) ?_
                  repeat (first | go_big_quiet_step ((go_at_call 36; exact calls_blw ((ref_run (r := r) (Kd.C_below (Kd.C_alloc G3.out _) (Blw.h _)) (Kd.C_below (Kd.C_alloc G4.out _) (Blw.h _)) Hby.out.1 Hby.out.2).mono (fun e w' h => ⟨by rw [h.1, hd1.out], h.2⟩)))) | quiet_step ((go_at_call 36; exact calls_blw ((ref_run (r := r) (Kd.C_below (Kd.C_alloc G3.out _) (Blw.h _)) (Kd.C_below (Kd.C_alloc G4.out _) (Blw.h _)) Hby.out.1 Hby.out.2).mono (fun e w' h => ⟨by rw [h.1, hd1.out], h.2⟩)))))
                  refine wpQuiet_nil ?_
                  rintro _ ⟨pq, rfl⟩
                  have HB4 := Kp.mk (HB.out.trans (((alloc_below wr _).trans (pq.h.mono (by simp))).mono HWs.out))
                  have HX4 := Kp.mk ((pq.h.block w.heap.size (by have := lt_of_block HX.out; simp; omega)).trans (((alloc_below wr _).block _ (lt_of_block HX.out)).trans HX.out))
                  clear q0 q1 q2 q3 q4 q5 x0 x1 x3
                  go_wp2_with fail
                  go_ret
                  exact ⟨_, rfl, hv.out, HB4.out⟩
              · have hz1 : ((k : Int) == 0) = false := by simp; omega
                have hz2 : decide (0 < (k : Int)) = true := by simp; omega
                have hz3 : decide (0 < k) = true := by simp; omega
                obtain ⟨q, hkq⟩ : ∃ q, k = q + 1 := ⟨k - 1, by omega⟩
                obtain ⟨ad', _, _, _, _, had, _, _, _, _, _, d5, _⟩ := rn_at (Kd.C_below H.out HB.out) q (by omega)
                cases had
                obtain ⟨z, hz⟩ : ∃ z, (rs.getD q zRn).seq = z := ⟨_, rfl⟩
                rw [hz] at d5
                have Hz := Kp.mk hz
                clear hz
                by_cases e4 : r.seq < z
                · have hv1 : Kp (∀ j, j < k + 1 → rowOk rs nx sq j) := ⟨fun j hj => by
                    by_cases hjk : j = k
                    · subst hjk
                      unfold rowOk
                      rw [Hr.out, hkq]
                      refine ⟨He1.out, e3, ?_⟩
                      show r.seq ≤ (rs.getD q zRn).seq - 1
                      rw [Hz.out]
                      omega
                    · exact HN1.out j (by omega)⟩
                  have hw : IntKind.i64.wrap ((k : Int) - 1) = (q : Int) := (IntWalk.i64_in _ (by omega)).trans (by omega)
                  have hqn : q < n := by omega
                  have hqn' : ¬ n ≤ q := by omega
                  have y5 := blw_cell (pw_cell_below (alloc_below wr (.cells #[.int .i64 r.file, .int .i64 r.bytes, .int .i64 r.count, .slice A3 r.first.length c3, .slice A4 r.last.length c4, .int .u64 r.seq] 42)) d5)
                  have Hkq := Kp.mk hkq
                  clear hkq
                  go_wp2_with fail
                  have q0 := blw_cell (cell_new wr _ _ 0 _ rfl : (wr.alloc (.cells #[.int .i64 r.file, .int .i64 r.bytes, .int .i64 r.count, .slice A3 r.first.length c3, .slice A4 r.last.length c4, .int .u64 r.seq] 42)).cell? ⟨wr.heap.size, 0, none⟩ = some _)
                  have q1 := blw_cell (cell_new wr _ _ 1 _ rfl : (wr.alloc (.cells #[.int .i64 r.file, .int .i64 r.bytes, .int .i64 r.count, .slice A3 r.first.length c3, .slice A4 r.last.length c4, .int .u64 r.seq] 42)).cell? ⟨wr.heap.size, 1, none⟩ = some _)
                  have q2 := blw_cell (cell_new wr _ _ 2 _ rfl : (wr.alloc (.cells #[.int .i64 r.file, .int .i64 r.bytes, .int .i64 r.count, .slice A3 r.first.length c3, .slice A4 r.last.length c4, .int .u64 r.seq] 42)).cell? ⟨wr.heap.size, 2, none⟩ = some _)
                  have q3 := blw_cell (cell_new wr _ _ 3 _ rfl : (wr.alloc (.cells #[.int .i64 r.file, .int .i64 r.bytes, .int .i64 r.count, .slice A3 r.first.length c3, .slice A4 r.last.length c4, .int .u64 r.seq] 42)).cell? ⟨wr.heap.size, 3, none⟩ = some _)
                  have q4 := blw_cell (cell_new wr _ _ 4 _ rfl : (wr.alloc (.cells #[.int .i64 r.file, .int .i64 r.bytes, .int .i64 r.count, .slice A3 r.first.length c3, .slice A4 r.last.length c4, .int .u64 r.seq] 42)).cell? ⟨wr.heap.size, 4, none⟩ = some _)
                  have q5 := blw_cell (cell_new wr _ _ 5 _ rfl : (wr.alloc (.cells #[.int .i64 r.file, .int .i64 r.bytes, .int .i64 r.count, .slice A3 r.first.length c3, .slice A4 r.last.length c4, .int .u64 r.seq] 42)).cell? ⟨wr.heap.size, 5, none⟩ = some _)
                  have x0 := blw_cell (pw_cell_below (alloc_below wr (.cells #[.int .i64 r.file, .int .i64 r.bytes, .int .i64 r.count, .slice A3 r.first.length c3, .slice A4 r.last.length c4, .int .u64 r.seq] 42)) b0)
                  have x1 := blw_cell (pw_cell_below (alloc_below wr (.cells #[.int .i64 r.file, .int .i64 r.bytes, .int .i64 r.count, .slice A3 r.first.length c3, .slice A4 r.last.length c4, .int .u64 r.seq] 42)) b1)
                  have x3 := blw_cell (pw_cell_below (alloc_below wr (.cells #[.int .i64 r.file, .int .i64 r.bytes, .int .i64 r.count, .slice A3 r.first.length c3, .slice A4 r.last.length c4, .int .u64 r.seq] 42)) b3)
                  refine wp_region_below (by kernel_rfl) (by kernel_rfl) ?_
                  repeat (first | go_big_quiet_step ((go_at_call 36; exact calls_blw ((ref_run (r := r) (Kd.C_below (Kd.C_alloc G3.out _) (Blw.h _)) (Kd.C_below (Kd.C_alloc G4.out _) (Blw.h _)) Hby.out.1 Hby.out.2).mono (fun e w' h => ⟨by rw [h.1, hd1.out], h.2⟩)))) | quiet_step ((go_at_call 36; exact calls_blw ((ref_run (r := r) (Kd.C_below (Kd.C_alloc G3.out _) (Blw.h _)) (Kd.C_below (Kd.C_alloc G4.out _) (Blw.h _)) Hby.out.1 Hby.out.2).mono (fun e w' h => ⟨by rw [h.1, hd1.out], h.2⟩)))))
                  refine wpQuiet_nil ?_
                  rintro _ ⟨pq, rfl⟩
                  have HB4 := Kp.mk (HB.out.trans (((alloc_below wr _).trans (pq.h.mono (by simp))).mono HWs.out))
                  have HX4 := Kp.mk ((pq.h.block w.heap.size (by have := lt_of_block HX.out; simp; omega)).trans (((alloc_below wr _).block _ (lt_of_block HX.out)).trans HX.out))
                  clear q0 q1 q2 q3 q4 q5 x0 x1 x3
                  go_wp2_with fail
                  go_roundw
                  case rel => exact ⟨k + 1, by omega, by go_num, hv1, HX4, HB4⟩
                  case measure => simp [intOf]; omega
                · have hv : Kp (false = true ↔ VOk rs nx lg sq) := ⟨⟨(fun h => by cases h), fun h => by
                    have h2 := (h.2.2 k (by rw [← Hn.out]; exact hlt)).2.2
                    rw [Hr.out, hkq] at h2
                    have h3 : r.seq ≤ (rs.getD q zRn).seq - 1 := h2
                    rw [Hz.out] at h3
                    omega⟩⟩
                  have e4' : z ≤ r.seq := by omega
                  clear e4
                  have hw : IntKind.i64.wrap ((k : Int) - 1) = (q : Int) := (IntWalk.i64_in _ (by omega)).trans (by omega)
                  have hqn : q < n := by omega
                  have hqn' : ¬ n ≤ q := by omega
                  have y5 := blw_cell (pw_cell_below (alloc_below wr (.cells #[.int .i64 r.file, .int .i64 r.bytes, .int .i64 r.count, .slice A3 r.first.length c3, .slice A4 r.last.length c4, .int .u64 r.seq] 42)) d5)
                  have Hkq := Kp.mk hkq
                  clear hkq
                  go_wp2_with fail
                  have q0 := blw_cell (cell_new wr _ _ 0 _ rfl : (wr.alloc (.cells #[.int .i64 r.file, .int .i64 r.bytes, .int .i64 r.count, .slice A3 r.first.length c3, .slice A4 r.last.length c4, .int .u64 r.seq] 42)).cell? ⟨wr.heap.size, 0, none⟩ = some _)
                  have q1 := blw_cell (cell_new wr _ _ 1 _ rfl : (wr.alloc (.cells #[.int .i64 r.file, .int .i64 r.bytes, .int .i64 r.count, .slice A3 r.first.length c3, .slice A4 r.last.length c4, .int .u64 r.seq] 42)).cell? ⟨wr.heap.size, 1, none⟩ = some _)
                  have q2 := blw_cell (cell_new wr _ _ 2 _ rfl : (wr.alloc (.cells #[.int .i64 r.file, .int .i64 r.bytes, .int .i64 r.count, .slice A3 r.first.length c3, .slice A4 r.last.length c4, .int .u64 r.seq] 42)).cell? ⟨wr.heap.size, 2, none⟩ = some _)
                  have q3 := blw_cell (cell_new wr _ _ 3 _ rfl : (wr.alloc (.cells #[.int .i64 r.file, .int .i64 r.bytes, .int .i64 r.count, .slice A3 r.first.length c3, .slice A4 r.last.length c4, .int .u64 r.seq] 42)).cell? ⟨wr.heap.size, 3, none⟩ = some _)
                  have q4 := blw_cell (cell_new wr _ _ 4 _ rfl : (wr.alloc (.cells #[.int .i64 r.file, .int .i64 r.bytes, .int .i64 r.count, .slice A3 r.first.length c3, .slice A4 r.last.length c4, .int .u64 r.seq] 42)).cell? ⟨wr.heap.size, 4, none⟩ = some _)
                  have q5 := blw_cell (cell_new wr _ _ 5 _ rfl : (wr.alloc (.cells #[.int .i64 r.file, .int .i64 r.bytes, .int .i64 r.count, .slice A3 r.first.length c3, .slice A4 r.last.length c4, .int .u64 r.seq] 42)).cell? ⟨wr.heap.size, 5, none⟩ = some _)
                  have x0 := blw_cell (pw_cell_below (alloc_below wr (.cells #[.int .i64 r.file, .int .i64 r.bytes, .int .i64 r.count, .slice A3 r.first.length c3, .slice A4 r.last.length c4, .int .u64 r.seq] 42)) b0)
                  have x1 := blw_cell (pw_cell_below (alloc_below wr (.cells #[.int .i64 r.file, .int .i64 r.bytes, .int .i64 r.count, .slice A3 r.first.length c3, .slice A4 r.last.length c4, .int .u64 r.seq] 42)) b1)
                  have x3 := blw_cell (pw_cell_below (alloc_below wr (.cells #[.int .i64 r.file, .int .i64 r.bytes, .int .i64 r.count, .slice A3 r.first.length c3, .slice A4 r.last.length c4, .int .u64 r.seq] 42)) b3)
                  refine wp_region_below (by kernel_rfl) (by kernel_rfl) ?_
                  repeat (first | go_big_quiet_step ((go_at_call 36; exact calls_blw ((ref_run (r := r) (Kd.C_below (Kd.C_alloc G3.out _) (Blw.h _)) (Kd.C_below (Kd.C_alloc G4.out _) (Blw.h _)) Hby.out.1 Hby.out.2).mono (fun e w' h => ⟨by rw [h.1, hd1.out], h.2⟩)))) | quiet_step ((go_at_call 36; exact calls_blw ((ref_run (r := r) (Kd.C_below (Kd.C_alloc G3.out _) (Blw.h _)) (Kd.C_below (Kd.C_alloc G4.out _) (Blw.h _)) Hby.out.1 Hby.out.2).mono (fun e w' h => ⟨by rw [h.1, hd1.out], h.2⟩)))))
                  refine wpQuiet_nil ?_
                  rintro _ ⟨pq, rfl⟩
                  have HB4 := Kp.mk (HB.out.trans (((alloc_below wr _).trans (pq.h.mono (by simp))).mono HWs.out))
                  have HX4 := Kp.mk ((pq.h.block w.heap.size (by have := lt_of_block HX.out; simp; omega)).trans (((alloc_below wr _).block _ (lt_of_block HX.out)).trans HX.out))
                  clear q0 q1 q2 q3 q4 q5 x0 x1 x3
                  go_wp2_with fail
                  go_ret
                  exact ⟨_, rfl, hv.out, HB4.out⟩
            · have e3' : nx ≤ r.file := by omega
              have hv : Kp (false = true ↔ VOk rs nx lg sq) := ⟨⟨(fun h => by cases h), fun h => absurd (h.2.2 k (by rw [← Hn.out]; exact hlt)).2.1 (by rw [Hr.out]; exact e3)⟩⟩
              clear e3
              go_wp2_with fail
              have q0 := blw_cell (cell_new wr _ _ 0 _ rfl : (wr.alloc (.cells #[.int .i64 r.file, .int .i64 r.bytes, .int .i64 r.count, .slice A3 r.first.length c3, .slice A4 r.last.length c4, .int .u64 r.seq] 42)).cell? ⟨wr.heap.size, 0, none⟩ = some _)
              have q1 := blw_cell (cell_new wr _ _ 1 _ rfl : (wr.alloc (.cells #[.int .i64 r.file, .int .i64 r.bytes, .int .i64 r.count, .slice A3 r.first.length c3, .slice A4 r.last.length c4, .int .u64 r.seq] 42)).cell? ⟨wr.heap.size, 1, none⟩ = some _)
              have q2 := blw_cell (cell_new wr _ _ 2 _ rfl : (wr.alloc (.cells #[.int .i64 r.file, .int .i64 r.bytes, .int .i64 r.count, .slice A3 r.first.length c3, .slice A4 r.last.length c4, .int .u64 r.seq] 42)).cell? ⟨wr.heap.size, 2, none⟩ = some _)
              have q3 := blw_cell (cell_new wr _ _ 3 _ rfl : (wr.alloc (.cells #[.int .i64 r.file, .int .i64 r.bytes, .int .i64 r.count, .slice A3 r.first.length c3, .slice A4 r.last.length c4, .int .u64 r.seq] 42)).cell? ⟨wr.heap.size, 3, none⟩ = some _)
              have q4 := blw_cell (cell_new wr _ _ 4 _ rfl : (wr.alloc (.cells #[.int .i64 r.file, .int .i64 r.bytes, .int .i64 r.count, .slice A3 r.first.length c3, .slice A4 r.last.length c4, .int .u64 r.seq] 42)).cell? ⟨wr.heap.size, 4, none⟩ = some _)
              have q5 := blw_cell (cell_new wr _ _ 5 _ rfl : (wr.alloc (.cells #[.int .i64 r.file, .int .i64 r.bytes, .int .i64 r.count, .slice A3 r.first.length c3, .slice A4 r.last.length c4, .int .u64 r.seq] 42)).cell? ⟨wr.heap.size, 5, none⟩ = some _)
              have x0 := blw_cell (pw_cell_below (alloc_below wr (.cells #[.int .i64 r.file, .int .i64 r.bytes, .int .i64 r.count, .slice A3 r.first.length c3, .slice A4 r.last.length c4, .int .u64 r.seq] 42)) b0)
              have x1 := blw_cell (pw_cell_below (alloc_below wr (.cells #[.int .i64 r.file, .int .i64 r.bytes, .int .i64 r.count, .slice A3 r.first.length c3, .slice A4 r.last.length c4, .int .u64 r.seq] 42)) b1)
              have x3 := blw_cell (pw_cell_below (alloc_below wr (.cells #[.int .i64 r.file, .int .i64 r.bytes, .int .i64 r.count, .slice A3 r.first.length c3, .slice A4 r.last.length c4, .int .u64 r.seq] 42)) b3)
              refine wp_region_below (by kernel_rfl) (by kernel_rfl) ?_
              repeat (first | go_big_quiet_step ((go_at_call 36; exact calls_blw ((ref_run (r := r) (Kd.C_below (Kd.C_alloc G3.out _) (Blw.h _)) (Kd.C_below (Kd.C_alloc G4.out _) (Blw.h _)) Hby.out.1 Hby.out.2).mono (fun e w' h => ⟨by rw [h.1, hd1.out], h.2⟩)))) | quiet_step ((go_at_call 36; exact calls_blw ((ref_run (r := r) (Kd.C_below (Kd.C_alloc G3.out _) (Blw.h _)) (Kd.C_below (Kd.C_alloc G4.out _) (Blw.h _)) Hby.out.1 Hby.out.2).mono (fun e w' h => ⟨by rw [h.1, hd1.out], h.2⟩)))))
              refine wpQuiet_nil ?_
              rintro _ ⟨pq, rfl⟩
              have HB4 := Kp.mk (HB.out.trans (((alloc_below wr _).trans (pq.h.mono (by simp))).mono HWs.out))
              have HX4 := Kp.mk ((pq.h.block w.heap.size (by have := lt_of_block HX.out; simp; omega)).trans (((alloc_below wr _).block _ (lt_of_block HX.out)).trans HX.out))
              clear q0 q1 q2 q3 q4 q5 x0 x1 x3
              go_wp2_with fail
              go_ret
              exact ⟨_, rfl, hv.out, HB4.out⟩
          · have hd1 : Kp (decide (rnOk r) = false) := ⟨decide_eq_false e1⟩
            have hv : Kp (false = true ↔ VOk rs nx lg sq) := ⟨⟨(fun h => by cases h), fun h => absurd (h.2.2 k (by rw [← Hn.out]; exact hlt)).1 (by rw [Hr.out]; exact e1)⟩⟩
            clear e1
            go_wp2_with fail
            have q0 := blw_cell (cell_new wr _ _ 0 _ rfl : (wr.alloc (.cells #[.int .i64 r.file, .int .i64 r.bytes, .int .i64 r.count, .slice A3 r.first.length c3, .slice A4 r.last.length c4, .int .u64 r.seq] 42)).cell? ⟨wr.heap.size, 0, none⟩ = some _)
            have q1 := blw_cell (cell_new wr _ _ 1 _ rfl : (wr.alloc (.cells #[.int .i64 r.file, .int .i64 r.bytes, .int .i64 r.count, .slice A3 r.first.length c3, .slice A4 r.last.length c4, .int .u64 r.seq] 42)).cell? ⟨wr.heap.size, 1, none⟩ = some _)
            have q2 := blw_cell (cell_new wr _ _ 2 _ rfl : (wr.alloc (.cells #[.int .i64 r.file, .int .i64 r.bytes, .int .i64 r.count, .slice A3 r.first.length c3, .slice A4 r.last.length c4, .int .u64 r.seq] 42)).cell? ⟨wr.heap.size, 2, none⟩ = some _)
            have q3 := blw_cell (cell_new wr _ _ 3 _ rfl : (wr.alloc (.cells #[.int .i64 r.file, .int .i64 r.bytes, .int .i64 r.count, .slice A3 r.first.length c3, .slice A4 r.last.length c4, .int .u64 r.seq] 42)).cell? ⟨wr.heap.size, 3, none⟩ = some _)
            have q4 := blw_cell (cell_new wr _ _ 4 _ rfl : (wr.alloc (.cells #[.int .i64 r.file, .int .i64 r.bytes, .int .i64 r.count, .slice A3 r.first.length c3, .slice A4 r.last.length c4, .int .u64 r.seq] 42)).cell? ⟨wr.heap.size, 4, none⟩ = some _)
            have q5 := blw_cell (cell_new wr _ _ 5 _ rfl : (wr.alloc (.cells #[.int .i64 r.file, .int .i64 r.bytes, .int .i64 r.count, .slice A3 r.first.length c3, .slice A4 r.last.length c4, .int .u64 r.seq] 42)).cell? ⟨wr.heap.size, 5, none⟩ = some _)
            have x0 := blw_cell (pw_cell_below (alloc_below wr (.cells #[.int .i64 r.file, .int .i64 r.bytes, .int .i64 r.count, .slice A3 r.first.length c3, .slice A4 r.last.length c4, .int .u64 r.seq] 42)) b0)
            have x1 := blw_cell (pw_cell_below (alloc_below wr (.cells #[.int .i64 r.file, .int .i64 r.bytes, .int .i64 r.count, .slice A3 r.first.length c3, .slice A4 r.last.length c4, .int .u64 r.seq] 42)) b1)
            have x3 := blw_cell (pw_cell_below (alloc_below wr (.cells #[.int .i64 r.file, .int .i64 r.bytes, .int .i64 r.count, .slice A3 r.first.length c3, .slice A4 r.last.length c4, .int .u64 r.seq] 42)) b3)
            refine wp_region_below (by kernel_rfl) (by kernel_rfl) ?_
            repeat (first | go_big_quiet_step ((go_at_call 36; exact calls_blw ((ref_run (r := r) (Kd.C_below (Kd.C_alloc G3.out _) (Blw.h _)) (Kd.C_below (Kd.C_alloc G4.out _) (Blw.h _)) Hby.out.1 Hby.out.2).mono (fun e w' h => ⟨by rw [h.1, hd1.out], h.2⟩)))) | quiet_step ((go_at_call 36; exact calls_blw ((ref_run (r := r) (Kd.C_below (Kd.C_alloc G3.out _) (Blw.h _)) (Kd.C_below (Kd.C_alloc G4.out _) (Blw.h _)) Hby.out.1 Hby.out.2).mono (fun e w' h => ⟨by rw [h.1, hd1.out], h.2⟩)))))
            refine wpQuiet_nil ?_
            rintro _ ⟨pq, rfl⟩
            have HB4 := Kp.mk (HB.out.trans (((alloc_below wr _).trans (pq.h.mono (by simp))).mono HWs.out))
            have HX4 := Kp.mk ((pq.h.block w.heap.size (by have := lt_of_block HX.out; simp; omega)).trans (((alloc_below wr _).block _ (lt_of_block HX.out)).trans HX.out))
            clear q0 q1 q2 q3 q4 q5 x0 x1 x3
            go_wp2_with fail
            go_ret
            exact ⟨_, rfl, hv.out, HB4.out⟩
        · have hkn : k = n := by omega
          have hv : Kp (∀ b : Bool, b = true → (b = true ↔ VOk rs nx lg sq)) := ⟨fun b hb => ⟨fun _ => ⟨by rw [← Hn.out]; exact Hd.out, Hb1.out, fun j hj => HN1.out j (by rw [hkn, Hn.out]; exact hj)⟩, fun _ => hb⟩⟩
          clear hkn
          go_wp2_with fail
          go_ret
          exact ⟨true, rfl, hv.out true rfl, HB.out⟩
  · go_enter Try.func17, Try.ntmps17
    go_wp2_with fail
    all_goals
      first
      | (exfalso; refine hd ?_; unfold vHead; omega)
      | (go_ret; exact ⟨_, rfl, ⟨(fun h => by cases h), fun h => absurd (by rw [Hn.out]; exact h.1) hd⟩, alloc_below _ _⟩)
end Go.Proofs.Ytgfkpddmjcgceaa.Kx
