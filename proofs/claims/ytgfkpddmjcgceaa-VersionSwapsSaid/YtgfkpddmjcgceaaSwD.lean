import Derived.Test.YtgfkpddmjcgceaaSwC
import Derived.Deep.RegionHeld3
set_option linter.unusedVariables false
set_option linter.unusedSimpArgs false
namespace Go.Proofs.Ytgfkpddmjcgceaa.Kx
open Go.RowKit Go.Maps Go.Proofs.YtgfkpddmjcgceaaW.PrintWords

set_option maxHeartbeats 16000000 in
set_option maxRecDepth 100000 in
theorem version_swaps (a0 a1 a2 : Int) (w : World) :
    Calls Try.prog 6 #[.int .i64 a0, .int .i64 a1, .int .i64 a2] w fun e w' => e = .returned (.bool true) ∧ Below w.heap.size w w' := by
  by_cases h0 : a0 < 1
  · skip
    go_enter Try.func6, Try.ntmps6
    go_wp2_with fail
    refine (alive_any _).mono ?_
    rintro e w1 ⟨rfl, hb1⟩
    have HB1 := Kp.mk hb1
    clear hb1
    go_wp2_with fail
    all_goals
      go_ret
      exact ⟨rfl, HB1.out⟩
  by_cases h1 : 40 < a0
  · skip
    go_enter Try.func6, Try.ntmps6
    go_wp2_with fail
    refine (alive_any _).mono ?_
    rintro e w1 ⟨rfl, hb1⟩
    have HB1 := Kp.mk hb1
    clear hb1
    go_wp2_with fail
    all_goals
      go_ret
      exact ⟨rfl, HB1.out⟩
  by_cases h2 : a1 < 0
  · skip
    go_enter Try.func6, Try.ntmps6
    go_wp2_with fail
    refine (alive_any _).mono ?_
    rintro e w1 ⟨rfl, hb1⟩
    have HB1 := Kp.mk hb1
    clear hb1
    go_wp2_with fail
    all_goals
      go_ret
      exact ⟨rfl, HB1.out⟩
  by_cases h3 : a0 ≤ a1
  · skip
    go_enter Try.func6, Try.ntmps6
    go_wp2_with fail
    refine (alive_any _).mono ?_
    rintro e w1 ⟨rfl, hb1⟩
    have HB1 := Kp.mk hb1
    clear hb1
    go_wp2_with fail
    all_goals
      go_ret
      exact ⟨rfl, HB1.out⟩
  by_cases h4 : a2 < 1
  · skip
    go_enter Try.func6, Try.ntmps6
    go_wp2_with fail
    refine (alive_any _).mono ?_
    rintro e w1 ⟨rfl, hb1⟩
    have HB1 := Kp.mk hb1
    clear hb1
    go_wp2_with fail
    all_goals
      go_ret
      exact ⟨rfl, HB1.out⟩
  by_cases h5 : a0 - a1 < a2
  · have hx0 : 0 ≤ a0 - a1 := by omega
    have hx1 : a0 - a1 ≤ 40 := by omega
    go_enter Try.func6, Try.ntmps6
    go_wp2_with fail
    refine (alive_any _).mono ?_
    rintro e w1 ⟨rfl, hb1⟩
    have HB1 := Kp.mk hb1
    clear hb1
    go_wp2_with fail
    all_goals
      go_ret
      exact ⟨rfl, HB1.out⟩
  obtain ⟨n, rfl⟩ := Int.eq_ofNat_of_zero_le (show 0 ≤ a0 by omega)
  obtain ⟨a, rfl⟩ := Int.eq_ofNat_of_zero_le (show 0 ≤ a1 by omega)
  obtain ⟨c, rfl⟩ := Int.eq_ofNat_of_zero_le (show 0 ≤ a2 by omega)
  have q0 : (n : Int) ≤ 40 := by omega
  have q1 : n ≤ 40 := by omega
  have q2 : a + c ≤ n := by omega
  have q3 : 1 ≤ c := by omega
  have q4 : 1 ≤ n := by omega
  have b0 : decide ((n : Int) < 1) = false := decide_eq_false (by omega)
  have b1 : decide (40 < (n : Int)) = false := decide_eq_false (by omega)
  have b2 : decide ((a : Int) < 0) = false := decide_eq_false (by omega)
  have b3 : decide ((c : Int) < 1) = false := decide_eq_false (by omega)
  have b4 : decide ((n : Int) - (a : Int) < (c : Int)) = false := decide_eq_false (by omega)
  have b5 : decide (n ≤ a) = false := decide_eq_false (by omega)
  go_enter Try.func6, Try.ntmps6
  go_wp2_with fail
  refine (alive_any _).mono ?_
  rintro e w1 ⟨rfl, hb1⟩
  have HB1 := Kp.mk hb1
  clear hb1
  go_wp2_with fail
  obtain ⟨g, hg⟩ : ∃ g, g = w1.heap.size := ⟨_, rfl⟩
  rw [← hg]
  have Hg := Kp.mk hg
  have HS0 := Kp.mk (show Sw w (w1.alloc (.cells #[.slice none 0 0, .int .i64 1, .int .i64 0, .int .u64 0] 27)) g (.slice none 0 0) (.int .i64 1) (.int .u64 0) (upR 0) from ⟨by rw [hg]; exact heap_alloc_new w1 _, Kd.R_nil _ _ _ _ _, HB1.out.alloc HB1.out.size _⟩)
  clear hg
  go_loopw [9] (fun i wr => ∃ k : Nat, 1 ≤ k ∧ k ≤ n + 1 ∧ i = .int .i64 k ∧ Kp (w.heap.size ≤ g) ∧ ∃ v, Kp (Sw w wr g v (.int .i64 k) (.int .u64 ((k - 1 : Nat) : Int)) (upR (k - 1)))) (fun i _ => n + 1 - (intOf i).toNat)
  case atStart => exact ⟨1, Nat.le_refl _, by omega, rfl, ⟨by rw [Hg.out]; exact HB1.out.size⟩, _, HS0⟩
  case round =>
    clear HS0 HB1
    obtain ⟨k, hk1, hk2, rfl, HG, v, HS⟩ := hrel
    by_cases hlt : k ≤ n
    · obtain ⟨A, cp, hv, hcp, hC⟩ := Kd.R_reads HS.out.r
      rw [upR_len] at hv hcp hC
      subst hv
      clear hC
      have HCP := Kp.mk hcp
      have HD := Kp.mk (HS.out.below (drew_below wr))
      have d0 := HS.out.cells.1
      have d1 := HS.out.cells.2.1
      have d2 := HS.out.cells.2.2.1
      have d3 := HS.out.cells.2.2.2
      have x1 : IntKind.u64.wrap (k : Int) = (k : Int) := IntWalk.u64_in (k : Int) ⟨by omega, by omega⟩
      have x2 : IntKind.i64.wrap ((k : Int) + 1) = (k : Int) + 1 := IntWalk.i64_in _ ⟨by omega, by omega⟩
      go_wp2_with fail
      refine wp_region_held_drew (S := fun W => W.cell? ⟨g, 0, none⟩ = some (.slice A (k - 1) cp) ∧ W.cell? ⟨g, 1, none⟩ = some (.int .i64 (k : Int)) ∧ W.cell? ⟨g, 2, none⟩ = some (.int .i64 0) ∧ W.cell? ⟨g, 3, none⟩ = some (.int .u64 ((k - 1 : Nat) : Int))) (by kernel_rfl) HD.out.cells (fun hHeld => ?_)
      refine wpAnyH_take (i := 0) (oi := _) (v := ?_) rfl (by kernel_rfl) (by kernel_rfl) (by kernel_rfl) (fun _ _ _ h => h) (Or.inl ⟨by rfl, ?_⟩) (by assumption) ?_
      rotate_left
      · intro w5 hSw; (try dsimp only at hSw); go_simp; all_goals (with_reducible rfl)
      try simp only [List.getElem_toArray, List.getElem_cons_succ, List.getElem_cons_zero, Act.put, List.setIfInBounds_toArray, List.set_cons_zero, List.set_cons_succ]
      refine wpAnyH_take (i := 1) (oi := _) (v := ?_) rfl (by kernel_rfl) (by kernel_rfl) (by kernel_rfl) (fun _ _ _ h => h) (Or.inl ⟨by rfl, ?_⟩) (by assumption) ?_
      rotate_left
      · intro w5 hSw; (try dsimp only at hSw); go_simp; all_goals (with_reducible rfl)
      try simp only [List.getElem_toArray, List.getElem_cons_succ, List.getElem_cons_zero, Act.put, List.setIfInBounds_toArray, List.set_cons_zero, List.set_cons_succ]
      refine wpAnyH_take (i := 2) (oi := _) (v := ?_) rfl (by kernel_rfl) (by kernel_rfl) (by kernel_rfl) (fun _ _ _ h => h) (Or.inl ⟨by rfl, ?_⟩) (by assumption) ?_
      rotate_left
      · intro w5 hSw; (try dsimp only at hSw); go_simp; all_goals (with_reducible rfl)
      try simp only [List.getElem_toArray, List.getElem_cons_succ, List.getElem_cons_zero, Act.put, List.setIfInBounds_toArray, List.set_cons_zero, List.set_cons_succ]
      refine wpAnyH_take (i := 3) (oi := _) (v := ?_) rfl (by kernel_rfl) (by kernel_rfl) (by kernel_rfl) (fun _ _ _ h => h) (Or.inl ⟨by rfl, ?_⟩) (by assumption) ?_
      rotate_left
      · intro w5 hSw; (try dsimp only at hSw); go_simp; all_goals (with_reducible rfl)
      try simp only [List.getElem_toArray, List.getElem_cons_succ, List.getElem_cons_zero, Act.put, List.setIfInBounds_toArray, List.set_cons_zero, List.set_cons_succ]
      refine wpAnyH_take (i := 6) (oi := _) (v := ?_) rfl (by kernel_rfl) (by kernel_rfl) (by kernel_rfl) (fun _ _ _ h => h) (Or.inl ⟨by rfl, ?_⟩) (by assumption) ?_
      rotate_left
      · intro w5 hSw; (try dsimp only at hSw); go_simp; all_goals (with_reducible rfl)
      try simp only [List.getElem_toArray, List.getElem_cons_succ, List.getElem_cons_zero, Act.put, List.setIfInBounds_toArray, List.set_cons_zero, List.set_cons_succ]
      refine wpAnyH_take (i := 7) (oi := _) (v := ?_) rfl (by kernel_rfl) (by kernel_rfl) (by kernel_rfl) (fun _ _ _ h => h) (Or.inl ⟨by rfl, ?_⟩) (by assumption) ?_
      rotate_left
      · intro w5 hSw; (try dsimp only at hSw); go_simp; all_goals (with_reducible rfl)
      try simp only [List.getElem_toArray, List.getElem_cons_succ, List.getElem_cons_zero, Act.put, List.setIfInBounds_toArray, List.set_cons_zero, List.set_cons_succ]
      refine wpAnyH_take (i := 8) (oi := _) (v := ?_) rfl (by kernel_rfl) (by kernel_rfl) (by kernel_rfl) (fun _ _ _ h => h) (Or.inl ⟨by rfl, ?_⟩) (by assumption) ?_
      rotate_left
      · intro w5 hSw; (try dsimp only at hSw); go_simp; all_goals (with_reducible rfl)
      try simp only [List.getElem_toArray, List.getElem_cons_succ, List.getElem_cons_zero, Act.put, List.setIfInBounds_toArray, List.set_cons_zero, List.set_cons_succ]
      refine wpAnyH_take (i := 9) (oi := _) (v := ?_) rfl (by kernel_rfl) (by kernel_rfl) (by kernel_rfl) (fun _ _ _ h => h) (Or.inl ⟨by rfl, ?_⟩) (by assumption) ?_
      rotate_left
      · intro w5 hSw; (try dsimp only at hSw); go_simp; all_goals (with_reducible rfl)
      try simp only [List.getElem_toArray, List.getElem_cons_succ, List.getElem_cons_zero, Act.put, List.setIfInBounds_toArray, List.set_cons_zero, List.set_cons_succ]
      refine wpAnyH_ready (rs := [4, 15]) (by kernel_rfl) (by simp) ?_
      refine AllReadyH.cons (o := _) rfl (fun K hK => ?_) (AllReadyH.cons (o := _) rfl (fun K hK => ?_) AllReadyH.nil)
      · skip
        go_simp
        refine (run_any _ _ _).mono ?_
        rintro e w2 ⟨g1, g2, rfl, ha, hb, hbl⟩
        have HA := Kp.mk ha
        have HB2 := Kp.mk hb
        have HS1 := Kp.mk (HD.out.below hbl)
        clear ha hb hbl
        refine hK.out _ _ HS1.out.cells (fun hHeld1 => ?_)
        clear hK K hHeld
        try simp only [List.getElem_toArray, List.getElem_cons_succ, List.getElem_cons_zero, Act.put, List.setIfInBounds_toArray, List.set_cons_zero, List.set_cons_succ]
        refine wpAnyH_ready (rs := [5, 15]) (by kernel_rfl) (by simp) ?_
        refine AllReadyH.cons (o := _) rfl (fun K hK => ?_) (AllReadyH.cons (o := _) rfl (fun K hK => ?_) AllReadyH.nil)
        · skip
          go_simp
          have HS2 := Kp.mk (HS1.out.below (alloc_below _ (.cells #[.int .i64 (k : Int), .int .i64 10, .int .i64 1, .slice (some ⟨g1, 0, none⟩) 1 1, .slice (some ⟨g2, 0, none⟩) 1 1, .int .u64 (k : Int)] 42)))
          have HQ : Kp (RunAt _ w2.heap.size (k : Int) (k : Int)) := ⟨RunAt.made HA.out HB2.out⟩
          refine hK.out _ _ HS2.out.cells (fun hHeld2 => ?_)
          clear hK K hHeld1
          try simp only [List.getElem_toArray, List.getElem_cons_succ, List.getElem_cons_zero, Act.put, List.setIfInBounds_toArray, List.set_cons_zero, List.set_cons_succ]
          refine wpAnyH_take (i := 10) (oi := _) (v := ?_) rfl (by kernel_rfl) (by kernel_rfl) (by kernel_rfl) (fun _ _ _ h => h) (Or.inl ⟨by rfl, ?_⟩) (by assumption) ?_
          rotate_left
          · intro w5 hSw; (try dsimp only at hSw); go_simp; all_goals (with_reducible rfl)
          try simp only [List.getElem_toArray, List.getElem_cons_succ, List.getElem_cons_zero, Act.put, List.setIfInBounds_toArray, List.set_cons_zero, List.set_cons_succ]
          refine wpAnyH_ready (rs := [11, 15]) (by kernel_rfl) (by simp) ?_
          refine AllReadyH.cons (o := _) rfl (fun K hK => ?_) (AllReadyH.cons (o := _) rfl (fun K hK => ?_) AllReadyH.nil)
          · skip
            go_simp
            refine (swap_apply HS2.out HCP.out HQ.out hk1 (by omega)).mono ?_
            rintro e w4 ⟨A5, c5, rfl, hr, hbl⟩
            have HR := Kp.mk hr
            have HRb := Kp.mk (HS2.out.b.size)
            have HS3 := Kp.mk (HS2.out.below hbl)
            clear hr hbl
            refine hK.out _ _ HS3.out.cells (fun hHeld3 => ?_)
            clear hK K hHeld2
            try simp only [List.getElem_toArray, List.getElem_cons_succ, List.getElem_cons_zero, Act.put, List.setIfInBounds_toArray, List.set_cons_zero, List.set_cons_succ]
            refine wpAnyH_take (i := 12) (oi := _) (v := ?_) rfl (by kernel_rfl) (by kernel_rfl) (by kernel_rfl) (fun _ _ _ h => h) (Or.inl ⟨by rfl, ?_⟩) (by assumption) ?_
            rotate_left
            · intro w5 hSw; (try dsimp only at hSw); go_simp; all_goals (with_reducible rfl)
            try simp only [List.getElem_toArray, List.getElem_cons_succ, List.getElem_cons_zero, Act.put, List.setIfInBounds_toArray, List.set_cons_zero, List.set_cons_succ]
            refine wpAnyH_take (i := 13) (oi := _) (v := ?_) rfl (by kernel_rfl) (by kernel_rfl) (by kernel_rfl) (fun _ _ _ h => h) (Or.inl ⟨by rfl, ?_⟩) (by assumption) ?_
            rotate_left
            · intro w5 hSw; (try dsimp only at hSw); go_simp; all_goals (with_reducible rfl)
            try simp only [List.getElem_toArray, List.getElem_cons_succ, List.getElem_cons_zero, Act.put, List.setIfInBounds_toArray, List.set_cons_zero, List.set_cons_succ]
            refine wpAnyH_take (i := 14) (oi := _) (v := ?_) rfl (by kernel_rfl) (by kernel_rfl) (by kernel_rfl) (fun _ _ _ h => h) (Or.inl ⟨by rfl, ?_⟩) (by assumption) ?_
            rotate_left
            · intro w5 hSw; (try dsimp only at hSw); go_simp; all_goals (with_reducible rfl)
            try simp only [List.getElem_toArray, List.getElem_cons_succ, List.getElem_cons_zero, Act.put, List.setIfInBounds_toArray, List.set_cons_zero, List.set_cons_succ]
            refine wpAnyH_ready (rs := [15]) (by kernel_rfl) (by simp) ?_
            refine AllReadyH.cons (o := _) rfl (fun K hK => ?_) AllReadyH.nil
            go_simp
            have HS4 := Kp.mk (HS3.out.below (alloc_below _ (.cells #[.slice none 0 0, .int .i64 0, .int .i64 0, .int .u64 0] 27)))
            have HZ : Kp ((World.alloc _ (.cells #[.slice none 0 0, .int .i64 0, .int .i64 0, .int .u64 0] 27)).heap[w4.heap.size]? = some (.cells #[.slice none 0 0, .int .i64 0, .int .i64 0, .int .u64 0] 27 (0, 0))) := ⟨heap_alloc_new w4 (.cells #[.slice none 0 0, .int .i64 0, .int .i64 0, .int .u64 0] 27)⟩
            have HP : Kp (g < w4.heap.size) := ⟨by have := lt_of_block HS3.out.z; simpa using this⟩
            have HPw : Kp (w.heap.size ≤ w4.heap.size) := ⟨by have := HS3.out.b.size; simpa using this⟩
            refine hK.out _ _ HS4.out.cells (fun hHeld4 => ?_)
            clear hK K hHeld3
            try simp only [List.getElem_toArray, List.getElem_cons_succ, List.getElem_cons_zero, Act.put, List.setIfInBounds_toArray, List.set_cons_zero, List.set_cons_succ]
            refine wpAnyH_ready (rs := [16]) (by kernel_rfl) (by simp) ?_
            refine AllReadyH.cons (o := _) rfl (fun K hK => ?_) AllReadyH.nil
            have z0 := cells_top HZ.out 0 _ rfl
            have z1 := cells_top HZ.out 1 _ rfl
            have z2 := cells_top HZ.out 2 _ rfl
            have z3 := cells_top HZ.out 3 _ rfl
            have y0 := free_top HZ.out 0
            have y1 := free_top HZ.out 1
            have y2 := free_top HZ.out 2
            have y3 := free_top HZ.out 3
            go_simp
            have HG9 := Kp.mk (HS3.out.below (alloc_below w4 (.cells #[.slice A5 k c5, .int .i64 ((k : Int) + 1), .int .i64 0, .int .u64 (k : Int)] 27)))
            have HF9 := Kp.mk (Sw.fresh HS3.out.b HR.out HRb.out (.int .i64 ((k : Int) + 1)) (.int .u64 (k : Int)))
            refine hK.out _ _ HG9.out.cells (fun hHeld9 => ?_)
            clear hK K hHeld4 z0 z1 z2 z3 y0 y1 y2 y3
            try simp only [List.getElem_toArray, List.getElem_cons_succ, List.getElem_cons_zero, Act.put, List.setIfInBounds_toArray, List.set_cons_zero, List.set_cons_succ]
            refine wpAnyH_take (i := 17) (oi := _) (v := ?_) rfl (by kernel_rfl) (by kernel_rfl) (by kernel_rfl) (fun _ _ _ h => h) (Or.inl ⟨by rfl, ?_⟩) (by assumption) ?_
            rotate_left
            · intro w5 hSw; (try dsimp only at hSw); go_simp; all_goals (with_reducible rfl)
            try simp only [List.getElem_toArray, List.getElem_cons_succ, List.getElem_cons_zero, Act.put, List.setIfInBounds_toArray, List.set_cons_zero, List.set_cons_succ]
            refine wpAnyH_done (by kernel_rfl) ?_ _
            clear hHeld9 
            have e0 := HF9.out.cells.1
            have e1 := HF9.out.cells.2.1
            have e2 := HF9.out.cells.2.2.1
            have e3 := HF9.out.cells.2.2.2
            have c0 := HG9.out.cells.1
            have c1 := HG9.out.cells.2.1
            have c2 := HG9.out.cells.2.2.1
            have c3 := HG9.out.cells.2.2.2
            have f0 := HG9.out.free 0
            have f1 := HG9.out.free 1
            have f2 := HG9.out.free 2
            have f3 := HG9.out.free 3
            clear d0 d1 d2 d3
            go_wp2_with fail
            refine (num_any _ _).mono ?_
            rintro e w9 ⟨rfl, rfl⟩
            go_wp2_with fail
            go_roundw
            case rel => exact ⟨k + 1, by omega, by omega, by go_num, HG, _, ⟨Sw.laid HF9.out.b HG9.out.z HG.out HF9.out.r (Nat.le_refl _) _ _⟩⟩
            case measure => simp [intOf]; omega
          · skip
            go_simp
            have HS3 := Kp.mk (HS2.out.below (alloc_below _ (.cells #[.slice none 0 0, .int .i64 0, .int .i64 0, .int .u64 0] 27)))
            have HZ : Kp ((World.alloc _ (.cells #[.slice none 0 0, .int .i64 0, .int .i64 0, .int .u64 0] 27)).heap[w2.heap.size + 1]? = some (.cells #[.slice none 0 0, .int .i64 0, .int .i64 0, .int .u64 0] 27 (0, 0))) := ⟨by have := heap_alloc_new (w2.alloc (.cells #[.int .i64 (k : Int), .int .i64 10, .int .i64 1, .slice (some ⟨g1, 0, none⟩) 1 1, .slice (some ⟨g2, 0, none⟩) 1 1, .int .u64 (k : Int)] 42)) (.cells #[.slice none 0 0, .int .i64 0, .int .i64 0, .int .u64 0] 27); rwa [show (w2.alloc (.cells #[.int .i64 (k : Int), .int .i64 10, .int .i64 1, .slice (some ⟨g1, 0, none⟩) 1 1, .slice (some ⟨g2, 0, none⟩) 1 1, .int .u64 (k : Int)] 42)).heap.size = w2.heap.size + 1 by simp] at this⟩
            have HP : Kp (g < w2.heap.size + 1) := ⟨by have := lt_of_block HS2.out.z; simpa using this⟩
            have HPw : Kp (w.heap.size ≤ w2.heap.size + 1) := ⟨by have := HS2.out.b.size; simpa using this⟩
            have HQ := Kp.mk (HQ.out.below (alloc_below _ (.cells #[.slice none 0 0, .int .i64 0, .int .i64 0, .int .u64 0] 27)))
            refine hK.out _ _ HS3.out.cells (fun hHeld3 => ?_)
            clear hK K hHeld2
            try simp only [List.getElem_toArray, List.getElem_cons_succ, List.getElem_cons_zero, Act.put, List.setIfInBounds_toArray, List.set_cons_zero, List.set_cons_succ]
            refine wpAnyH_ready (rs := [11]) (by kernel_rfl) (by simp) ?_
            refine AllReadyH.cons (o := _) rfl (fun K hK => ?_) AllReadyH.nil
            go_simp
            refine (swap_apply HS3.out HCP.out HQ.out hk1 (by omega)).mono ?_
            rintro e w4 ⟨A5, c5, rfl, hr, hbl⟩
            have HR := Kp.mk hr
            have HRb := Kp.mk (HS3.out.b.size)
            have HS4 := Kp.mk (HS3.out.below hbl)
            have HZ := Kp.mk ((hbl.block _ (lt_of_block HZ.out)).trans HZ.out)
            clear hr hbl
            refine hK.out _ _ HS4.out.cells (fun hHeld4 => ?_)
            clear hK K hHeld3
            try simp only [List.getElem_toArray, List.getElem_cons_succ, List.getElem_cons_zero, Act.put, List.setIfInBounds_toArray, List.set_cons_zero, List.set_cons_succ]
            refine wpAnyH_take (i := 12) (oi := _) (v := ?_) rfl (by kernel_rfl) (by kernel_rfl) (by kernel_rfl) (fun _ _ _ h => h) (Or.inl ⟨by rfl, ?_⟩) (by assumption) ?_
            rotate_left
            · intro w5 hSw; (try dsimp only at hSw); go_simp; all_goals (with_reducible rfl)
            try simp only [List.getElem_toArray, List.getElem_cons_succ, List.getElem_cons_zero, Act.put, List.setIfInBounds_toArray, List.set_cons_zero, List.set_cons_succ]
            refine wpAnyH_take (i := 13) (oi := _) (v := ?_) rfl (by kernel_rfl) (by kernel_rfl) (by kernel_rfl) (fun _ _ _ h => h) (Or.inl ⟨by rfl, ?_⟩) (by assumption) ?_
            rotate_left
            · intro w5 hSw; (try dsimp only at hSw); go_simp; all_goals (with_reducible rfl)
            try simp only [List.getElem_toArray, List.getElem_cons_succ, List.getElem_cons_zero, Act.put, List.setIfInBounds_toArray, List.set_cons_zero, List.set_cons_succ]
            refine wpAnyH_take (i := 14) (oi := _) (v := ?_) rfl (by kernel_rfl) (by kernel_rfl) (by kernel_rfl) (fun _ _ _ h => h) (Or.inl ⟨by rfl, ?_⟩) (by assumption) ?_
            rotate_left
            · intro w5 hSw; (try dsimp only at hSw); go_simp; all_goals (with_reducible rfl)
            try simp only [List.getElem_toArray, List.getElem_cons_succ, List.getElem_cons_zero, Act.put, List.setIfInBounds_toArray, List.set_cons_zero, List.set_cons_succ]
            refine wpAnyH_ready (rs := [16]) (by kernel_rfl) (by simp) ?_
            refine AllReadyH.cons (o := _) rfl (fun K hK => ?_) AllReadyH.nil
            have z0 := cells_top HZ.out 0 _ rfl
            have z1 := cells_top HZ.out 1 _ rfl
            have z2 := cells_top HZ.out 2 _ rfl
            have z3 := cells_top HZ.out 3 _ rfl
            have y0 := free_top HZ.out 0
            have y1 := free_top HZ.out 1
            have y2 := free_top HZ.out 2
            have y3 := free_top HZ.out 3
            go_simp
            have HG9 := Kp.mk (HS4.out.put HZ.out HP.out HPw.out (.slice A5 k c5) (.int .i64 ((k : Int) + 1)) (.int .i64 0) (.int .u64 (k : Int)))
            have HF9 := Kp.mk (Sw.laid HS4.out.b HZ.out HPw.out HR.out HRb.out (.int .i64 ((k : Int) + 1)) (.int .u64 (k : Int)))
            refine hK.out _ _ HG9.out.cells (fun hHeld9 => ?_)
            clear hK K hHeld4 z0 z1 z2 z3 y0 y1 y2 y3
            try simp only [List.getElem_toArray, List.getElem_cons_succ, List.getElem_cons_zero, Act.put, List.setIfInBounds_toArray, List.set_cons_zero, List.set_cons_succ]
            refine wpAnyH_take (i := 17) (oi := _) (v := ?_) rfl (by kernel_rfl) (by kernel_rfl) (by kernel_rfl) (fun _ _ _ h => h) (Or.inl ⟨by rfl, ?_⟩) (by assumption) ?_
            rotate_left
            · intro w5 hSw; (try dsimp only at hSw); go_simp; all_goals (with_reducible rfl)
            try simp only [List.getElem_toArray, List.getElem_cons_succ, List.getElem_cons_zero, Act.put, List.setIfInBounds_toArray, List.set_cons_zero, List.set_cons_succ]
            refine wpAnyH_done (by kernel_rfl) ?_ _
            clear hHeld9 
            have e0 := HF9.out.cells.1
            have e1 := HF9.out.cells.2.1
            have e2 := HF9.out.cells.2.2.1
            have e3 := HF9.out.cells.2.2.2
            have c0 := HG9.out.cells.1
            have c1 := HG9.out.cells.2.1
            have c2 := HG9.out.cells.2.2.1
            have c3 := HG9.out.cells.2.2.2
            have f0 := HG9.out.free 0
            have f1 := HG9.out.free 1
            have f2 := HG9.out.free 2
            have f3 := HG9.out.free 3
            clear d0 d1 d2 d3
            go_wp2_with fail
            refine (num_any _ _).mono ?_
            rintro e w9 ⟨rfl, rfl⟩
            go_wp2_with fail
            go_roundw
            case rel => exact ⟨k + 1, by omega, by omega, by go_num, HG, _, ⟨Sw.laid HF9.out.b HG9.out.z HG.out HF9.out.r (Nat.le_refl _) _ _⟩⟩
            case measure => simp [intOf]; omega
        · skip
          go_simp
          have HS2 := Kp.mk (HS1.out.below (alloc_below _ (.cells #[.slice none 0 0, .int .i64 0, .int .i64 0, .int .u64 0] 27)))
          have HZ : Kp ((World.alloc _ (.cells #[.slice none 0 0, .int .i64 0, .int .i64 0, .int .u64 0] 27)).heap[w2.heap.size]? = some (.cells #[.slice none 0 0, .int .i64 0, .int .i64 0, .int .u64 0] 27 (0, 0))) := ⟨heap_alloc_new w2 (.cells #[.slice none 0 0, .int .i64 0, .int .i64 0, .int .u64 0] 27)⟩
          have HP : Kp (g < w2.heap.size) := ⟨by have := lt_of_block HS1.out.z; simpa using this⟩
          have HPw : Kp (w.heap.size ≤ w2.heap.size) := ⟨by have := HS1.out.b.size; simpa using this⟩
          have HA := Kp.mk (Kd.C_alloc HA.out (.cells #[.slice none 0 0, .int .i64 0, .int .i64 0, .int .u64 0] 27))
          have HB2 := Kp.mk (Kd.C_alloc HB2.out (.cells #[.slice none 0 0, .int .i64 0, .int .i64 0, .int .u64 0] 27))
          refine hK.out _ _ HS2.out.cells (fun hHeld2 => ?_)
          clear hK K hHeld1
          try simp only [List.getElem_toArray, List.getElem_cons_succ, List.getElem_cons_zero, Act.put, List.setIfInBounds_toArray, List.set_cons_zero, List.set_cons_succ]
          refine wpAnyH_ready (rs := [5]) (by kernel_rfl) (by simp) ?_
          refine AllReadyH.cons (o := _) rfl (fun K hK => ?_) AllReadyH.nil
          go_simp
          have HS3 := Kp.mk (HS2.out.below (alloc_below _ (.cells #[.int .i64 (k : Int), .int .i64 10, .int .i64 1, .slice (some ⟨g1, 0, none⟩) 1 1, .slice (some ⟨g2, 0, none⟩) 1 1, .int .u64 (k : Int)] 42)))
          have HZ := Kp.mk (blk_alloc HZ.out (.cells #[.int .i64 (k : Int), .int .i64 10, .int .i64 1, .slice (some ⟨g1, 0, none⟩) 1 1, .slice (some ⟨g2, 0, none⟩) 1 1, .int .u64 (k : Int)] 42))
          have HQ : Kp (RunAt _ (w2.heap.size + 1) (k : Int) (k : Int)) := ⟨by have := RunAt.made (f := (k : Int)) (s := (k : Int)) HA.out HB2.out; rwa [show (w2.alloc (.cells #[.slice none 0 0, .int .i64 0, .int .i64 0, .int .u64 0] 27)).heap.size = w2.heap.size + 1 by simp] at this⟩
          refine hK.out _ _ HS3.out.cells (fun hHeld3 => ?_)
          clear hK K hHeld2
          try simp only [List.getElem_toArray, List.getElem_cons_succ, List.getElem_cons_zero, Act.put, List.setIfInBounds_toArray, List.set_cons_zero, List.set_cons_succ]
          refine wpAnyH_take (i := 10) (oi := _) (v := ?_) rfl (by kernel_rfl) (by kernel_rfl) (by kernel_rfl) (fun _ _ _ h => h) (Or.inl ⟨by rfl, ?_⟩) (by assumption) ?_
          rotate_left
          · intro w5 hSw; (try dsimp only at hSw); go_simp; all_goals (with_reducible rfl)
          try simp only [List.getElem_toArray, List.getElem_cons_succ, List.getElem_cons_zero, Act.put, List.setIfInBounds_toArray, List.set_cons_zero, List.set_cons_succ]
          refine wpAnyH_ready (rs := [11]) (by kernel_rfl) (by simp) ?_
          refine AllReadyH.cons (o := _) rfl (fun K hK => ?_) AllReadyH.nil
          go_simp
          refine (swap_apply HS3.out HCP.out HQ.out hk1 (by omega)).mono ?_
          rintro e w4 ⟨A5, c5, rfl, hr, hbl⟩
          have HR := Kp.mk hr
          have HRb := Kp.mk (HS3.out.b.size)
          have HS4 := Kp.mk (HS3.out.below hbl)
          have HZ := Kp.mk ((hbl.block _ (lt_of_block HZ.out)).trans HZ.out)
          clear hr hbl
          refine hK.out _ _ HS4.out.cells (fun hHeld4 => ?_)
          clear hK K hHeld3
          try simp only [List.getElem_toArray, List.getElem_cons_succ, List.getElem_cons_zero, Act.put, List.setIfInBounds_toArray, List.set_cons_zero, List.set_cons_succ]
          refine wpAnyH_take (i := 12) (oi := _) (v := ?_) rfl (by kernel_rfl) (by kernel_rfl) (by kernel_rfl) (fun _ _ _ h => h) (Or.inl ⟨by rfl, ?_⟩) (by assumption) ?_
          rotate_left
          · intro w5 hSw; (try dsimp only at hSw); go_simp; all_goals (with_reducible rfl)
          try simp only [List.getElem_toArray, List.getElem_cons_succ, List.getElem_cons_zero, Act.put, List.setIfInBounds_toArray, List.set_cons_zero, List.set_cons_succ]
          refine wpAnyH_take (i := 13) (oi := _) (v := ?_) rfl (by kernel_rfl) (by kernel_rfl) (by kernel_rfl) (fun _ _ _ h => h) (Or.inl ⟨by rfl, ?_⟩) (by assumption) ?_
          rotate_left
          · intro w5 hSw; (try dsimp only at hSw); go_simp; all_goals (with_reducible rfl)
          try simp only [List.getElem_toArray, List.getElem_cons_succ, List.getElem_cons_zero, Act.put, List.setIfInBounds_toArray, List.set_cons_zero, List.set_cons_succ]
          refine wpAnyH_take (i := 14) (oi := _) (v := ?_) rfl (by kernel_rfl) (by kernel_rfl) (by kernel_rfl) (fun _ _ _ h => h) (Or.inl ⟨by rfl, ?_⟩) (by assumption) ?_
          rotate_left
          · intro w5 hSw; (try dsimp only at hSw); go_simp; all_goals (with_reducible rfl)
          try simp only [List.getElem_toArray, List.getElem_cons_succ, List.getElem_cons_zero, Act.put, List.setIfInBounds_toArray, List.set_cons_zero, List.set_cons_succ]
          refine wpAnyH_ready (rs := [16]) (by kernel_rfl) (by simp) ?_
          refine AllReadyH.cons (o := _) rfl (fun K hK => ?_) AllReadyH.nil
          have z0 := cells_top HZ.out 0 _ rfl
          have z1 := cells_top HZ.out 1 _ rfl
          have z2 := cells_top HZ.out 2 _ rfl
          have z3 := cells_top HZ.out 3 _ rfl
          have y0 := free_top HZ.out 0
          have y1 := free_top HZ.out 1
          have y2 := free_top HZ.out 2
          have y3 := free_top HZ.out 3
          go_simp
          have HG9 := Kp.mk (HS4.out.put HZ.out HP.out HPw.out (.slice A5 k c5) (.int .i64 ((k : Int) + 1)) (.int .i64 0) (.int .u64 (k : Int)))
          have HF9 := Kp.mk (Sw.laid HS4.out.b HZ.out HPw.out HR.out HRb.out (.int .i64 ((k : Int) + 1)) (.int .u64 (k : Int)))
          refine hK.out _ _ HG9.out.cells (fun hHeld9 => ?_)
          clear hK K hHeld4 z0 z1 z2 z3 y0 y1 y2 y3
          try simp only [List.getElem_toArray, List.getElem_cons_succ, List.getElem_cons_zero, Act.put, List.setIfInBounds_toArray, List.set_cons_zero, List.set_cons_succ]
          refine wpAnyH_take (i := 17) (oi := _) (v := ?_) rfl (by kernel_rfl) (by kernel_rfl) (by kernel_rfl) (fun _ _ _ h => h) (Or.inl ⟨by rfl, ?_⟩) (by assumption) ?_
          rotate_left
          · intro w5 hSw; (try dsimp only at hSw); go_simp; all_goals (with_reducible rfl)
          try simp only [List.getElem_toArray, List.getElem_cons_succ, List.getElem_cons_zero, Act.put, List.setIfInBounds_toArray, List.set_cons_zero, List.set_cons_succ]
          refine wpAnyH_done (by kernel_rfl) ?_ _
          clear hHeld9 
          have e0 := HF9.out.cells.1
          have e1 := HF9.out.cells.2.1
          have e2 := HF9.out.cells.2.2.1
          have e3 := HF9.out.cells.2.2.2
          have c0 := HG9.out.cells.1
          have c1 := HG9.out.cells.2.1
          have c2 := HG9.out.cells.2.2.1
          have c3 := HG9.out.cells.2.2.2
          have f0 := HG9.out.free 0
          have f1 := HG9.out.free 1
          have f2 := HG9.out.free 2
          have f3 := HG9.out.free 3
          clear d0 d1 d2 d3
          go_wp2_with fail
          refine (num_any _ _).mono ?_
          rintro e w9 ⟨rfl, rfl⟩
          go_wp2_with fail
          go_roundw
          case rel => exact ⟨k + 1, by omega, by omega, by go_num, HG, _, ⟨Sw.laid HF9.out.b HG9.out.z HG.out HF9.out.r (Nat.le_refl _) _ _⟩⟩
          case measure => simp [intOf]; omega
      · skip
        go_simp
        have HS1 := Kp.mk (HD.out.below (alloc_below _ (.cells #[.slice none 0 0, .int .i64 0, .int .i64 0, .int .u64 0] 27)))
        have HZ : Kp ((World.alloc _ (.cells #[.slice none 0 0, .int .i64 0, .int .i64 0, .int .u64 0] 27)).heap[wr.heap.size]? = some (.cells #[.slice none 0 0, .int .i64 0, .int .i64 0, .int .u64 0] 27 (0, 0))) := ⟨heap_alloc_new wr.drew (.cells #[.slice none 0 0, .int .i64 0, .int .i64 0, .int .u64 0] 27)⟩
        have HP : Kp (g < wr.heap.size) := ⟨by have := lt_of_block HD.out.z; simpa using this⟩
        have HPw : Kp (w.heap.size ≤ wr.heap.size) := ⟨by have := HD.out.b.size; simpa using this⟩
        refine hK.out _ _ HS1.out.cells (fun hHeld1 => ?_)
        clear hK K hHeld
        try simp only [List.getElem_toArray, List.getElem_cons_succ, List.getElem_cons_zero, Act.put, List.setIfInBounds_toArray, List.set_cons_zero, List.set_cons_succ]
        refine wpAnyH_ready (rs := [4]) (by kernel_rfl) (by simp) ?_
        refine AllReadyH.cons (o := _) rfl (fun K hK => ?_) AllReadyH.nil
        go_simp
        refine (run_any _ _ _).mono ?_
        rintro e w2 ⟨g1, g2, rfl, ha, hb, hbl⟩
        have HA := Kp.mk ha
        have HB2 := Kp.mk hb
        have HS2 := Kp.mk (HS1.out.below hbl)
        have HZ := Kp.mk ((hbl.block _ (lt_of_block HZ.out)).trans HZ.out)
        clear ha hb hbl
        refine hK.out _ _ HS2.out.cells (fun hHeld2 => ?_)
        clear hK K hHeld1
        try simp only [List.getElem_toArray, List.getElem_cons_succ, List.getElem_cons_zero, Act.put, List.setIfInBounds_toArray, List.set_cons_zero, List.set_cons_succ]
        refine wpAnyH_ready (rs := [5]) (by kernel_rfl) (by simp) ?_
        refine AllReadyH.cons (o := _) rfl (fun K hK => ?_) AllReadyH.nil
        go_simp
        have HS3 := Kp.mk (HS2.out.below (alloc_below _ (.cells #[.int .i64 (k : Int), .int .i64 10, .int .i64 1, .slice (some ⟨g1, 0, none⟩) 1 1, .slice (some ⟨g2, 0, none⟩) 1 1, .int .u64 (k : Int)] 42)))
        have HZ := Kp.mk (blk_alloc HZ.out (.cells #[.int .i64 (k : Int), .int .i64 10, .int .i64 1, .slice (some ⟨g1, 0, none⟩) 1 1, .slice (some ⟨g2, 0, none⟩) 1 1, .int .u64 (k : Int)] 42))
        have HQ : Kp (RunAt _ w2.heap.size (k : Int) (k : Int)) := ⟨RunAt.made HA.out HB2.out⟩
        refine hK.out _ _ HS3.out.cells (fun hHeld3 => ?_)
        clear hK K hHeld2
        try simp only [List.getElem_toArray, List.getElem_cons_succ, List.getElem_cons_zero, Act.put, List.setIfInBounds_toArray, List.set_cons_zero, List.set_cons_succ]
        refine wpAnyH_take (i := 10) (oi := _) (v := ?_) rfl (by kernel_rfl) (by kernel_rfl) (by kernel_rfl) (fun _ _ _ h => h) (Or.inl ⟨by rfl, ?_⟩) (by assumption) ?_
        rotate_left
        · intro w5 hSw; (try dsimp only at hSw); go_simp; all_goals (with_reducible rfl)
        try simp only [List.getElem_toArray, List.getElem_cons_succ, List.getElem_cons_zero, Act.put, List.setIfInBounds_toArray, List.set_cons_zero, List.set_cons_succ]
        refine wpAnyH_ready (rs := [11]) (by kernel_rfl) (by simp) ?_
        refine AllReadyH.cons (o := _) rfl (fun K hK => ?_) AllReadyH.nil
        go_simp
        refine (swap_apply HS3.out HCP.out HQ.out hk1 (by omega)).mono ?_
        rintro e w4 ⟨A5, c5, rfl, hr, hbl⟩
        have HR := Kp.mk hr
        have HRb := Kp.mk (HS3.out.b.size)
        have HS4 := Kp.mk (HS3.out.below hbl)
        have HZ := Kp.mk ((hbl.block _ (lt_of_block HZ.out)).trans HZ.out)
        clear hr hbl
        refine hK.out _ _ HS4.out.cells (fun hHeld4 => ?_)
        clear hK K hHeld3
        try simp only [List.getElem_toArray, List.getElem_cons_succ, List.getElem_cons_zero, Act.put, List.setIfInBounds_toArray, List.set_cons_zero, List.set_cons_succ]
        refine wpAnyH_take (i := 12) (oi := _) (v := ?_) rfl (by kernel_rfl) (by kernel_rfl) (by kernel_rfl) (fun _ _ _ h => h) (Or.inl ⟨by rfl, ?_⟩) (by assumption) ?_
        rotate_left
        · intro w5 hSw; (try dsimp only at hSw); go_simp; all_goals (with_reducible rfl)
        try simp only [List.getElem_toArray, List.getElem_cons_succ, List.getElem_cons_zero, Act.put, List.setIfInBounds_toArray, List.set_cons_zero, List.set_cons_succ]
        refine wpAnyH_take (i := 13) (oi := _) (v := ?_) rfl (by kernel_rfl) (by kernel_rfl) (by kernel_rfl) (fun _ _ _ h => h) (Or.inl ⟨by rfl, ?_⟩) (by assumption) ?_
        rotate_left
        · intro w5 hSw; (try dsimp only at hSw); go_simp; all_goals (with_reducible rfl)
        try simp only [List.getElem_toArray, List.getElem_cons_succ, List.getElem_cons_zero, Act.put, List.setIfInBounds_toArray, List.set_cons_zero, List.set_cons_succ]
        refine wpAnyH_take (i := 14) (oi := _) (v := ?_) rfl (by kernel_rfl) (by kernel_rfl) (by kernel_rfl) (fun _ _ _ h => h) (Or.inl ⟨by rfl, ?_⟩) (by assumption) ?_
        rotate_left
        · intro w5 hSw; (try dsimp only at hSw); go_simp; all_goals (with_reducible rfl)
        try simp only [List.getElem_toArray, List.getElem_cons_succ, List.getElem_cons_zero, Act.put, List.setIfInBounds_toArray, List.set_cons_zero, List.set_cons_succ]
        refine wpAnyH_ready (rs := [16]) (by kernel_rfl) (by simp) ?_
        refine AllReadyH.cons (o := _) rfl (fun K hK => ?_) AllReadyH.nil
        have z0 := cells_top HZ.out 0 _ rfl
        have z1 := cells_top HZ.out 1 _ rfl
        have z2 := cells_top HZ.out 2 _ rfl
        have z3 := cells_top HZ.out 3 _ rfl
        have y0 := free_top HZ.out 0
        have y1 := free_top HZ.out 1
        have y2 := free_top HZ.out 2
        have y3 := free_top HZ.out 3
        go_simp
        have HG9 := Kp.mk (HS4.out.put HZ.out HP.out HPw.out (.slice A5 k c5) (.int .i64 ((k : Int) + 1)) (.int .i64 0) (.int .u64 (k : Int)))
        have HF9 := Kp.mk (Sw.laid HS4.out.b HZ.out HPw.out HR.out HRb.out (.int .i64 ((k : Int) + 1)) (.int .u64 (k : Int)))
        refine hK.out _ _ HG9.out.cells (fun hHeld9 => ?_)
        clear hK K hHeld4 z0 z1 z2 z3 y0 y1 y2 y3
        try simp only [List.getElem_toArray, List.getElem_cons_succ, List.getElem_cons_zero, Act.put, List.setIfInBounds_toArray, List.set_cons_zero, List.set_cons_succ]
        refine wpAnyH_take (i := 17) (oi := _) (v := ?_) rfl (by kernel_rfl) (by kernel_rfl) (by kernel_rfl) (fun _ _ _ h => h) (Or.inl ⟨by rfl, ?_⟩) (by assumption) ?_
        rotate_left
        · intro w5 hSw; (try dsimp only at hSw); go_simp; all_goals (with_reducible rfl)
        try simp only [List.getElem_toArray, List.getElem_cons_succ, List.getElem_cons_zero, Act.put, List.setIfInBounds_toArray, List.set_cons_zero, List.set_cons_succ]
        refine wpAnyH_done (by kernel_rfl) ?_ _
        clear hHeld9 
        have e0 := HF9.out.cells.1
        have e1 := HF9.out.cells.2.1
        have e2 := HF9.out.cells.2.2.1
        have e3 := HF9.out.cells.2.2.2
        have c0 := HG9.out.cells.1
        have c1 := HG9.out.cells.2.1
        have c2 := HG9.out.cells.2.2.1
        have c3 := HG9.out.cells.2.2.2
        have f0 := HG9.out.free 0
        have f1 := HG9.out.free 1
        have f2 := HG9.out.free 2
        have f3 := HG9.out.free 3
        clear d0 d1 d2 d3
        go_wp2_with fail
        refine (num_any _ _).mono ?_
        rintro e w9 ⟨rfl, rfl⟩
        go_wp2_with fail
        go_roundw
        case rel => exact ⟨k + 1, by omega, by omega, by go_num, HG, _, ⟨Sw.laid HF9.out.b HG9.out.z HG.out HF9.out.r (Nat.le_refl _) _ _⟩⟩
        case measure => simp [intOf]; omega
    · have HSn : Kp (Sw w wr g v (.int .i64 ((n : Int) + 1)) (.int .u64 (n : Int)) (upR n)) := ⟨by have h := HS.out; rw [show k = n + 1 by omega] at h; rwa [Nat.add_sub_cancel, show ((n + 1 : Nat) : Int) = (n : Int) + 1 by omega] at h⟩
      clear HS
      go_wp2_with fail
      go_loopw [12, 13] (fun v2 i w3 => ∃ m : Nat, a ≤ m ∧ m ≤ a + c ∧ i = .int .i64 m ∧ Kp ((Kd.int .i64).R 3 w3 w.heap.size (fun _ => True) v2 (dropL n a (m - a))) ∧ Kp (Sw w w3 g v (.int .i64 ((n : Int) + 1)) (.int .u64 (n : Int)) (upR n))) (fun _ i _ => a + c - (intOf i).toNat)
      case atStart => exact ⟨a, Nat.le_refl _, by omega, rfl, ⟨by rw [Nat.sub_self]; exact Kd.R_nil _ _ _ _ _⟩, HSn⟩
      case round =>
        clear HSn
        obtain ⟨m, hm1, hm2, rfl, HO, HS⟩ := hrel
        by_cases hlt2 : m < a + c
        · have hi : (m : Int) < (a : Int) + (c : Int) := by omega
          have HX : Kp (dropL n a (m + 1 - a) = dropL n a (m - a) ++ [(n : Int) - (m : Int)]) := ⟨by rw [show m + 1 - a = (m - a) + 1 by omega, dropL_snoc, show ((n - (a + (m - a)) : Nat) : Int) = (n : Int) - (m : Int) by omega]⟩
          have HLn := Kp.mk (dropL_len n a (m - a))
          obtain ⟨ys, hys⟩ : ∃ ys, ys = dropL n a (m - a) := ⟨_, rfl⟩
          rw [← hys] at HO HX HLn
          clear hys
          go_wp2_with (at_builtin; refine Kd.R_append (Kd.int .i64) (w0 := w) w.heap.size rfl (.tmp 83) (.tmp 87) 29 3 (.int .i64 0) 8 rfl Try.underlying29 Try.infoInt rfl (by decide) (by omega) u12 ys ((n : Int) - (m : Int)) [.int .i64 ((n : Int) - (m : Int))] (fun _ => True) (fun _ => False) rfl rfl rfl (fun _ hk => hk.elim) (fun _ _ => trivial) HO.out HS.out.b HS.out.b.size (by rw [HLn.out]; omega) ?_; intro v1 w5 hR hB hg hat; have HR := Kp.mk hR; have HG5 := Kp.mk (HS.out.grown HO.out hB hg); clear hR hB hg hat)
          go_roundw
          case rel => exact ⟨m + 1, by omega, by omega, by go_num, ⟨by rw [HX.out]; exact HR.out⟩, HG5⟩
          case measure => simp [intOf]; omega
        · obtain rfl : m = a + c := by omega
          rw [Nat.add_sub_cancel_left] at HO
          obtain ⟨A, cp, hv, hcp, hC⟩ := Kd.R_reads HS.out.r
          rw [upR_len] at hv hcp hC
          subst hv
          clear hC
          have HCP := Kp.mk hcp
          obtain ⟨A2, c2, hv2, hl2, hC2⟩ := Kd.R_reads HO.out
          rw [dropL_len] at hv2 hl2 hC2
          subst hv2
          have HX := Kp.mk (Kd.C_drew hC2)
          clear HO hC2 hl2
          have HD := Kp.mk (HS.out.below (drew_below wr))
          have d0 := HS.out.cells.1
          have d1 := HS.out.cells.2.1
          have d2 := HS.out.cells.2.2.1
          have d3 := HS.out.cells.2.2.2
          have x1 : IntKind.u64.wrap ((n : Int) - (a : Int)) = (n : Int) - (a : Int) := IntWalk.u64_in _ ⟨by omega, by omega⟩
          have x2 : IntKind.i64.wrap ((n : Int) + 1) = (n : Int) + 1 := IntWalk.i64_in _ ⟨by omega, by omega⟩
          have x3 : IntKind.i64.wrap ((n : Int) - (a : Int)) = (n : Int) - (a : Int) := IntWalk.i64_in _ ⟨by omega, by omega⟩
          have x4 : IntKind.i64.wrap ((n : Int) + 2) = (n : Int) + 2 := IntWalk.i64_in _ ⟨by omega, by omega⟩
          go_wp2_with fail
          refine wp_region_held_drew (S := fun W => W.cell? ⟨g, 0, none⟩ = some (.slice A n cp) ∧ W.cell? ⟨g, 1, none⟩ = some (.int .i64 ((n : Int) + 1)) ∧ W.cell? ⟨g, 2, none⟩ = some (.int .i64 0) ∧ W.cell? ⟨g, 3, none⟩ = some (.int .u64 (n : Int))) (by kernel_rfl) HD.out.cells (fun hHeld => ?_)
          refine wpAnyH_take (i := 0) (oi := _) (v := ?_) rfl (by kernel_rfl) (by kernel_rfl) (by kernel_rfl) (fun _ _ _ h => h) (Or.inl ⟨by rfl, ?_⟩) (by assumption) ?_
          rotate_left
          · intro w5 hSw; (try dsimp only at hSw); go_simp; all_goals (with_reducible rfl)
          try simp only [List.getElem_toArray, List.getElem_cons_succ, List.getElem_cons_zero, Act.put, List.setIfInBounds_toArray, List.set_cons_zero, List.set_cons_succ]
          refine wpAnyH_take (i := 1) (oi := _) (v := ?_) rfl (by kernel_rfl) (by kernel_rfl) (by kernel_rfl) (fun _ _ _ h => h) (Or.inl ⟨by rfl, ?_⟩) (by assumption) ?_
          rotate_left
          · intro w5 hSw; (try dsimp only at hSw); go_simp; all_goals (with_reducible rfl)
          try simp only [List.getElem_toArray, List.getElem_cons_succ, List.getElem_cons_zero, Act.put, List.setIfInBounds_toArray, List.set_cons_zero, List.set_cons_succ]
          refine wpAnyH_take (i := 2) (oi := _) (v := ?_) rfl (by kernel_rfl) (by kernel_rfl) (by kernel_rfl) (fun _ _ _ h => h) (Or.inl ⟨by rfl, ?_⟩) (by assumption) ?_
          rotate_left
          · intro w5 hSw; (try dsimp only at hSw); go_simp; all_goals (with_reducible rfl)
          try simp only [List.getElem_toArray, List.getElem_cons_succ, List.getElem_cons_zero, Act.put, List.setIfInBounds_toArray, List.set_cons_zero, List.set_cons_succ]
          refine wpAnyH_take (i := 3) (oi := _) (v := ?_) rfl (by kernel_rfl) (by kernel_rfl) (by kernel_rfl) (fun _ _ _ h => h) (Or.inl ⟨by rfl, ?_⟩) (by assumption) ?_
          rotate_left
          · intro w5 hSw; (try dsimp only at hSw); go_simp; all_goals (with_reducible rfl)
          try simp only [List.getElem_toArray, List.getElem_cons_succ, List.getElem_cons_zero, Act.put, List.setIfInBounds_toArray, List.set_cons_zero, List.set_cons_succ]
          refine wpAnyH_take (i := 4) (oi := _) (v := ?_) rfl (by kernel_rfl) (by kernel_rfl) (by kernel_rfl) (fun _ _ _ h => h) (Or.inl ⟨by rfl, ?_⟩) (by assumption) ?_
          rotate_left
          · intro w5 hSw; (try dsimp only at hSw); go_simp; all_goals (with_reducible rfl)
          try simp only [List.getElem_toArray, List.getElem_cons_succ, List.getElem_cons_zero, Act.put, List.setIfInBounds_toArray, List.set_cons_zero, List.set_cons_succ]
          refine wpAnyH_take (i := 5) (oi := _) (v := ?_) rfl (by kernel_rfl) (by kernel_rfl) (by kernel_rfl) (fun _ _ _ h => h) (Or.inl ⟨by rfl, ?_⟩) (by assumption) ?_
          rotate_left
          · intro w5 hSw; (try dsimp only at hSw); go_simp; all_goals (with_reducible rfl)
          try simp only [List.getElem_toArray, List.getElem_cons_succ, List.getElem_cons_zero, Act.put, List.setIfInBounds_toArray, List.set_cons_zero, List.set_cons_succ]
          refine wpAnyH_take (i := 6) (oi := _) (v := ?_) rfl (by kernel_rfl) (by kernel_rfl) (by kernel_rfl) (fun _ _ _ h => h) (Or.inl ⟨by rfl, ?_⟩) (by assumption) ?_
          rotate_left
          · intro w5 hSw; (try dsimp only at hSw); go_simp; all_goals (with_reducible rfl)
          try simp only [List.getElem_toArray, List.getElem_cons_succ, List.getElem_cons_zero, Act.put, List.setIfInBounds_toArray, List.set_cons_zero, List.set_cons_succ]
          refine wpAnyH_take (i := 9) (oi := _) (v := ?_) rfl (by kernel_rfl) (by kernel_rfl) (by kernel_rfl) (fun _ _ _ h => h) (Or.inl ⟨by rfl, ?_⟩) (by assumption) ?_
          rotate_left
          · intro w5 hSw; (try dsimp only at hSw); go_simp; all_goals (with_reducible rfl)
          try simp only [List.getElem_toArray, List.getElem_cons_succ, List.getElem_cons_zero, Act.put, List.setIfInBounds_toArray, List.set_cons_zero, List.set_cons_succ]
          refine wpAnyH_take (i := 10) (oi := _) (v := ?_) rfl (by kernel_rfl) (by kernel_rfl) (by kernel_rfl) (fun _ _ _ h => h) (Or.inl ⟨by rfl, ?_⟩) (by assumption) ?_
          rotate_left
          · intro w5 hSw; (try dsimp only at hSw); go_simp; all_goals (with_reducible rfl)
          try simp only [List.getElem_toArray, List.getElem_cons_succ, List.getElem_cons_zero, Act.put, List.setIfInBounds_toArray, List.set_cons_zero, List.set_cons_succ]
          refine wpAnyH_take (i := 11) (oi := _) (v := ?_) rfl (by kernel_rfl) (by kernel_rfl) (by kernel_rfl) (fun _ _ _ h => h) (Or.inl ⟨by rfl, ?_⟩) (by assumption) ?_
          rotate_left
          · intro w5 hSw; (try dsimp only at hSw); go_simp; all_goals (with_reducible rfl)
          try simp only [List.getElem_toArray, List.getElem_cons_succ, List.getElem_cons_zero, Act.put, List.setIfInBounds_toArray, List.set_cons_zero, List.set_cons_succ]
          refine wpAnyH_ready (rs := [7, 17]) (by kernel_rfl) (by simp) ?_
          refine AllReadyH.cons (o := _) rfl (fun K hK => ?_) (AllReadyH.cons (o := _) rfl (fun K hK => ?_) AllReadyH.nil)
          · skip
            go_simp
            refine (run_any _ _ _).mono ?_
            rintro e w2 ⟨g1, g2, rfl, ha, hb, hbl⟩
            have HA := Kp.mk ha
            have HB2 := Kp.mk hb
            have HS1 := Kp.mk (HD.out.below hbl)
            have HX := Kp.mk (Kd.C_below HX.out hbl)
            clear ha hb hbl
            refine hK.out _ _ HS1.out.cells (fun hHeld1 => ?_)
            clear hK K hHeld
            try simp only [List.getElem_toArray, List.getElem_cons_succ, List.getElem_cons_zero, Act.put, List.setIfInBounds_toArray, List.set_cons_zero, List.set_cons_succ]
            refine wpAnyH_ready (rs := [8, 17]) (by kernel_rfl) (by simp) ?_
            refine AllReadyH.cons (o := _) rfl (fun K hK => ?_) (AllReadyH.cons (o := _) rfl (fun K hK => ?_) AllReadyH.nil)
            · skip
              go_simp
              have HS2 := Kp.mk (HS1.out.below (alloc_below _ (.cells #[.int .i64 ((n : Int) + 1), .int .i64 10, .int .i64 1, .slice (some ⟨g1, 0, none⟩) 1 1, .slice (some ⟨g2, 0, none⟩) 1 1, .int .u64 ((n : Int) - (a : Int))] 42)))
              have HQ : Kp (RunAt _ w2.heap.size ((n : Int) + 1) ((n : Int) - (a : Int))) := ⟨RunAt.made HA.out HB2.out⟩
              have HX := Kp.mk (Kd.C_alloc HX.out (.cells #[.int .i64 ((n : Int) + 1), .int .i64 10, .int .i64 1, .slice (some ⟨g1, 0, none⟩) 1 1, .slice (some ⟨g2, 0, none⟩) 1 1, .int .u64 ((n : Int) - (a : Int))] 42))
              refine hK.out _ _ HS2.out.cells (fun hHeld2 => ?_)
              clear hK K hHeld1
              try simp only [List.getElem_toArray, List.getElem_cons_succ, List.getElem_cons_zero, Act.put, List.setIfInBounds_toArray, List.set_cons_zero, List.set_cons_succ]
              refine wpAnyH_take (i := 12) (oi := _) (v := ?_) rfl (by kernel_rfl) (by kernel_rfl) (by kernel_rfl) (fun _ _ _ h => h) (Or.inl ⟨by rfl, ?_⟩) (by assumption) ?_
              rotate_left
              · intro w5 hSw; (try dsimp only at hSw); go_simp; all_goals (with_reducible rfl)
              try simp only [List.getElem_toArray, List.getElem_cons_succ, List.getElem_cons_zero, Act.put, List.setIfInBounds_toArray, List.set_cons_zero, List.set_cons_succ]
              refine wpAnyH_ready (rs := [13, 17]) (by kernel_rfl) (by simp) ?_
              refine AllReadyH.cons (o := _) rfl (fun K hK => ?_) (AllReadyH.cons (o := _) rfl (fun K hK => ?_) AllReadyH.nil)
              · skip
                go_simp
                refine (swap_last HS2.out HCP.out HQ.out HX.out q1 q2 q3).mono ?_
                rintro e w4 ⟨A5, c5, rfl, hr, hbl⟩
                have HR := Kp.mk hr
                have HRb := Kp.mk (HS2.out.b.size)
                have HS3 := Kp.mk (HS2.out.below hbl)
                clear hr hbl
                refine hK.out _ _ HS3.out.cells (fun hHeld3 => ?_)
                clear hK K hHeld2
                try simp only [List.getElem_toArray, List.getElem_cons_succ, List.getElem_cons_zero, Act.put, List.setIfInBounds_toArray, List.set_cons_zero, List.set_cons_succ]
                refine wpAnyH_take (i := 14) (oi := _) (v := ?_) rfl (by kernel_rfl) (by kernel_rfl) (by kernel_rfl) (fun _ _ _ h => h) (Or.inl ⟨by rfl, ?_⟩) (by assumption) ?_
                rotate_left
                · intro w5 hSw; (try dsimp only at hSw); go_simp; all_goals (with_reducible rfl)
                try simp only [List.getElem_toArray, List.getElem_cons_succ, List.getElem_cons_zero, Act.put, List.setIfInBounds_toArray, List.set_cons_zero, List.set_cons_succ]
                refine wpAnyH_take (i := 15) (oi := _) (v := ?_) rfl (by kernel_rfl) (by kernel_rfl) (by kernel_rfl) (fun _ _ _ h => h) (Or.inl ⟨by rfl, ?_⟩) (by assumption) ?_
                rotate_left
                · intro w5 hSw; (try dsimp only at hSw); go_simp; all_goals (with_reducible rfl)
                try simp only [List.getElem_toArray, List.getElem_cons_succ, List.getElem_cons_zero, Act.put, List.setIfInBounds_toArray, List.set_cons_zero, List.set_cons_succ]
                refine wpAnyH_take (i := 16) (oi := _) (v := ?_) rfl (by kernel_rfl) (by kernel_rfl) (by kernel_rfl) (fun _ _ _ h => h) (Or.inl ⟨by rfl, ?_⟩) (by assumption) ?_
                rotate_left
                · intro w5 hSw; (try dsimp only at hSw); go_simp; all_goals (with_reducible rfl)
                try simp only [List.getElem_toArray, List.getElem_cons_succ, List.getElem_cons_zero, Act.put, List.setIfInBounds_toArray, List.set_cons_zero, List.set_cons_succ]
                refine wpAnyH_ready (rs := [17]) (by kernel_rfl) (by simp) ?_
                refine AllReadyH.cons (o := _) rfl (fun K hK => ?_) AllReadyH.nil
                go_simp
                have HS4 := Kp.mk (HS3.out.below (alloc_below _ (.cells #[.slice none 0 0, .int .i64 0, .int .i64 0, .int .u64 0] 27)))
                have HZ : Kp ((World.alloc _ (.cells #[.slice none 0 0, .int .i64 0, .int .i64 0, .int .u64 0] 27)).heap[w4.heap.size]? = some (.cells #[.slice none 0 0, .int .i64 0, .int .i64 0, .int .u64 0] 27 (0, 0))) := ⟨heap_alloc_new w4 (.cells #[.slice none 0 0, .int .i64 0, .int .i64 0, .int .u64 0] 27)⟩
                have HP : Kp (g < w4.heap.size) := ⟨by have := lt_of_block HS3.out.z; simpa using this⟩
                have HPw : Kp (w.heap.size ≤ w4.heap.size) := ⟨by have := HS3.out.b.size; simpa using this⟩
                have HX := Kp.mk (Kd.C_alloc HX.out (.cells #[.slice none 0 0, .int .i64 0, .int .i64 0, .int .u64 0] 27))
                refine hK.out _ _ HS4.out.cells (fun hHeld4 => ?_)
                clear hK K hHeld3
                try simp only [List.getElem_toArray, List.getElem_cons_succ, List.getElem_cons_zero, Act.put, List.setIfInBounds_toArray, List.set_cons_zero, List.set_cons_succ]
                refine wpAnyH_ready (rs := [18]) (by kernel_rfl) (by simp) ?_
                refine AllReadyH.cons (o := _) rfl (fun K hK => ?_) AllReadyH.nil
                have z0 := cells_top HZ.out 0 _ rfl
                have z1 := cells_top HZ.out 1 _ rfl
                have z2 := cells_top HZ.out 2 _ rfl
                have z3 := cells_top HZ.out 3 _ rfl
                have y0 := free_top HZ.out 0
                have y1 := free_top HZ.out 1
                have y2 := free_top HZ.out 2
                have y3 := free_top HZ.out 3
                go_simp
                have HG9 := Kp.mk (HS3.out.below (alloc_below w4 (.cells #[.slice A5 (n - c + 1) c5, .int .i64 ((n : Int) + 2), .int .i64 0, .int .u64 (n : Int)] 27)))
                have HF9 := Kp.mk (Sw.fresh HS3.out.b HR.out HRb.out (.int .i64 ((n : Int) + 2)) (.int .u64 (n : Int)))
                refine hK.out _ _ HG9.out.cells (fun hHeld9 => ?_)
                clear hK K hHeld4 z0 z1 z2 z3 y0 y1 y2 y3
                try simp only [List.getElem_toArray, List.getElem_cons_succ, List.getElem_cons_zero, Act.put, List.setIfInBounds_toArray, List.set_cons_zero, List.set_cons_succ]
                refine wpAnyH_take (i := 19) (oi := _) (v := ?_) rfl (by kernel_rfl) (by kernel_rfl) (by kernel_rfl) (fun _ _ _ h => h) (Or.inl ⟨by rfl, ?_⟩) (by assumption) ?_
                rotate_left
                · intro w5 hSw; (try dsimp only at hSw); go_simp; all_goals (with_reducible rfl)
                try simp only [List.getElem_toArray, List.getElem_cons_succ, List.getElem_cons_zero, Act.put, List.setIfInBounds_toArray, List.set_cons_zero, List.set_cons_succ]
                refine wpAnyH_done (by kernel_rfl) ?_ _
                clear hHeld9 
                clear x1 x2 x3 x4 d0 d1 d2 d3 HG9
                have HV := Kp.mk (swL_vok n a c q1 q2 q3)
                obtain ⟨A6, c6, hv6, hl6, hC6⟩ := Kd.R_reads HF9.out.r
                rw [swL_len n a c q2] at hv6 hl6 hC6
                cases hv6
                have HC6 := Kp.mk hC6
                clear hC6 hl6
                have e0 := HF9.out.cells.1
                have e1 := HF9.out.cells.2.1
                have e2 := HF9.out.cells.2.2.1
                have e3 := HF9.out.cells.2.2.2
                have y0 : (n : Int) - (c : Int) + 1 = ((n - c + 1 : Nat) : Int) := by omega
                have HY0 := Kp.mk y0
                clear y0
                have y1 : ((((n - c : Nat) : Int) + 1) != (n : Int) - (c : Int) + 1) = false := by rw [HY0.out]; simp
                go_wp2_with fail
                refine (num_any _ _).mono ?_
                rintro e w9 ⟨rfl, rfl⟩
                go_wp2_with fail
                go_loop [16] (fun i => ∃ j : Nat, j ≤ n - c + 1 ∧ i = .int .i64 j) (fun i => n - c + 1 - (intOf i).toNat)
                case atStart => exact ⟨0, Nat.zero_le _, rfl⟩
                case round =>
                  obtain ⟨j, hj, rfl⟩ := hrel
                  by_cases hlt3 : j < n - c + 1
                  · obtain ⟨ad, A3, c3, A4, c4, rfl, s0, _⟩ := rn_at HC6.out j hlt3
                    have hf : ((swL n a c).getD j zRn).file = swF n a c j := by rw [swL_get n a c j q2 q3 hlt3]; rfl
                    rw [hf] at s0
                    clear hf
                    have i3 : (j : Int) < ((n - c : Nat) : Int) + 1 := by omega
                    rcases Nat.lt_trichotomy j a with h3 | h3 | h3
                    · have hf : swF n a c j = (n : Int) - (j : Int) := by unfold swF; rw [if_pos h3]; omega
                      rw [hf] at s0
                      clear hf
                      have t1 : (j == a) = false := by simpa using (by omega : ¬ j = a)
                      have t2 : ((j : Int) == (a : Int)) = false := beq_eq_false_iff_ne.2 (by omega)
                      have t3 : decide (a < j) = false := decide_eq_false (by omega)
                      have t4 : decide ((a : Int) < (j : Int)) = false := decide_eq_false (by omega)
                      have t5 : ¬ j = a := by omega
                      have t6 : ¬ a < j := by omega
                      go_wp2_with fail
                      go_round
                      case rel => exact ⟨j + 1, by omega, by go_num⟩
                      case measure => simp [intOf]; omega
                    · have hf : swF n a c j = (n : Int) + 1 := by unfold swF; rw [if_neg (by omega), if_pos h3]; omega
                      rw [hf] at s0
                      clear hf
                      subst h3
                      have t3 : decide (j < j) = false := decide_eq_false (by omega)
                      go_wp2_with fail
                      go_round
                      case rel => exact ⟨j + 1, by omega, by go_num⟩
                      case measure => simp [intOf]; omega
                    · have hf : swF n a c j = (n : Int) - (j : Int) - (c : Int) + 1 := by unfold swF; rw [if_neg (by omega), if_neg (by omega)]; omega
                      rw [hf] at s0
                      clear hf
                      have t1 : (j == a) = false := by simpa using (by omega : ¬ j = a)
                      have t2 : ((j : Int) == (a : Int)) = false := beq_eq_false_iff_ne.2 (by omega)
                      have t3 : decide (a < j) = true := decide_eq_true (by omega)
                      have t4 : decide ((a : Int) < (j : Int)) = true := decide_eq_true (by omega)
                      have t5 : ¬ j = a := by omega
                      go_wp2_with fail
                      go_round
                      case rel => exact ⟨j + 1, by omega, by go_num⟩
                      case measure => simp [intOf]; omega
                  · have hlv := version_live (A := A5) (c := c5) (rs := swL n a c) ((n : Int) + 2) 0 n (by rw [swL_len n a c q2]; exact HC6.out) (by rw [swL_len n a c q2]; omega)
                    rw [swL_len n a c q2] at hlv
                    have HLv := Kp.mk hlv
                    clear hlv
                    go_wp2_with fail
                    refine HLv.out.mono ?_
                    rintro e w5 ⟨v5, l5, rfl, hR5, hP5, hB5⟩
                    have hl5 := live_len HV.out hP5
                    rw [swL_len n a c q2] at hl5
                    obtain ⟨A7, c7, rfl⟩ := Kd.R_slice hR5
                    rw [hl5]
                    have HB5 := Kp.mk ((HF9.out.b).trans (hB5.mono HF9.out.b.size))
                    clear hR5 hP5 hB5 hl5 HLv
                    have y2 : ((((n - c : Nat) : Int) + 1) == (n : Int) - (c : Int) + 1) = true := by rw [HY0.out]; simp
                    go_wp2_with fail
                    go_ret
                    exact ⟨rfl, HB5.out⟩
              · skip
                go_simp
                have HS3 := Kp.mk (HS2.out.below (alloc_below _ (.cells #[.slice none 0 0, .int .i64 0, .int .i64 0, .int .u64 0] 27)))
                have HZ : Kp ((World.alloc _ (.cells #[.slice none 0 0, .int .i64 0, .int .i64 0, .int .u64 0] 27)).heap[w2.heap.size + 1]? = some (.cells #[.slice none 0 0, .int .i64 0, .int .i64 0, .int .u64 0] 27 (0, 0))) := ⟨by have := heap_alloc_new (w2.alloc (.cells #[.int .i64 ((n : Int) + 1), .int .i64 10, .int .i64 1, .slice (some ⟨g1, 0, none⟩) 1 1, .slice (some ⟨g2, 0, none⟩) 1 1, .int .u64 ((n : Int) - (a : Int))] 42)) (.cells #[.slice none 0 0, .int .i64 0, .int .i64 0, .int .u64 0] 27); rwa [show (w2.alloc (.cells #[.int .i64 ((n : Int) + 1), .int .i64 10, .int .i64 1, .slice (some ⟨g1, 0, none⟩) 1 1, .slice (some ⟨g2, 0, none⟩) 1 1, .int .u64 ((n : Int) - (a : Int))] 42)).heap.size = w2.heap.size + 1 by simp] at this⟩
                have HP : Kp (g < w2.heap.size + 1) := ⟨by have := lt_of_block HS2.out.z; simpa using this⟩
                have HPw : Kp (w.heap.size ≤ w2.heap.size + 1) := ⟨by have := HS2.out.b.size; simpa using this⟩
                have HQ := Kp.mk (HQ.out.below (alloc_below _ (.cells #[.slice none 0 0, .int .i64 0, .int .i64 0, .int .u64 0] 27)))
                have HX := Kp.mk (Kd.C_alloc HX.out (.cells #[.slice none 0 0, .int .i64 0, .int .i64 0, .int .u64 0] 27))
                refine hK.out _ _ HS3.out.cells (fun hHeld3 => ?_)
                clear hK K hHeld2
                try simp only [List.getElem_toArray, List.getElem_cons_succ, List.getElem_cons_zero, Act.put, List.setIfInBounds_toArray, List.set_cons_zero, List.set_cons_succ]
                refine wpAnyH_ready (rs := [13]) (by kernel_rfl) (by simp) ?_
                refine AllReadyH.cons (o := _) rfl (fun K hK => ?_) AllReadyH.nil
                go_simp
                refine (swap_last HS3.out HCP.out HQ.out HX.out q1 q2 q3).mono ?_
                rintro e w4 ⟨A5, c5, rfl, hr, hbl⟩
                have HR := Kp.mk hr
                have HRb := Kp.mk (HS3.out.b.size)
                have HS4 := Kp.mk (HS3.out.below hbl)
                have HZ := Kp.mk ((hbl.block _ (lt_of_block HZ.out)).trans HZ.out)
                clear hr hbl
                refine hK.out _ _ HS4.out.cells (fun hHeld4 => ?_)
                clear hK K hHeld3
                try simp only [List.getElem_toArray, List.getElem_cons_succ, List.getElem_cons_zero, Act.put, List.setIfInBounds_toArray, List.set_cons_zero, List.set_cons_succ]
                refine wpAnyH_take (i := 14) (oi := _) (v := ?_) rfl (by kernel_rfl) (by kernel_rfl) (by kernel_rfl) (fun _ _ _ h => h) (Or.inl ⟨by rfl, ?_⟩) (by assumption) ?_
                rotate_left
                · intro w5 hSw; (try dsimp only at hSw); go_simp; all_goals (with_reducible rfl)
                try simp only [List.getElem_toArray, List.getElem_cons_succ, List.getElem_cons_zero, Act.put, List.setIfInBounds_toArray, List.set_cons_zero, List.set_cons_succ]
                refine wpAnyH_take (i := 15) (oi := _) (v := ?_) rfl (by kernel_rfl) (by kernel_rfl) (by kernel_rfl) (fun _ _ _ h => h) (Or.inl ⟨by rfl, ?_⟩) (by assumption) ?_
                rotate_left
                · intro w5 hSw; (try dsimp only at hSw); go_simp; all_goals (with_reducible rfl)
                try simp only [List.getElem_toArray, List.getElem_cons_succ, List.getElem_cons_zero, Act.put, List.setIfInBounds_toArray, List.set_cons_zero, List.set_cons_succ]
                refine wpAnyH_take (i := 16) (oi := _) (v := ?_) rfl (by kernel_rfl) (by kernel_rfl) (by kernel_rfl) (fun _ _ _ h => h) (Or.inl ⟨by rfl, ?_⟩) (by assumption) ?_
                rotate_left
                · intro w5 hSw; (try dsimp only at hSw); go_simp; all_goals (with_reducible rfl)
                try simp only [List.getElem_toArray, List.getElem_cons_succ, List.getElem_cons_zero, Act.put, List.setIfInBounds_toArray, List.set_cons_zero, List.set_cons_succ]
                refine wpAnyH_ready (rs := [18]) (by kernel_rfl) (by simp) ?_
                refine AllReadyH.cons (o := _) rfl (fun K hK => ?_) AllReadyH.nil
                have z0 := cells_top HZ.out 0 _ rfl
                have z1 := cells_top HZ.out 1 _ rfl
                have z2 := cells_top HZ.out 2 _ rfl
                have z3 := cells_top HZ.out 3 _ rfl
                have y0 := free_top HZ.out 0
                have y1 := free_top HZ.out 1
                have y2 := free_top HZ.out 2
                have y3 := free_top HZ.out 3
                go_simp
                have HG9 := Kp.mk (HS4.out.put HZ.out HP.out HPw.out (.slice A5 (n - c + 1) c5) (.int .i64 ((n : Int) + 2)) (.int .i64 0) (.int .u64 (n : Int)))
                have HF9 := Kp.mk (Sw.laid HS4.out.b HZ.out HPw.out HR.out HRb.out (.int .i64 ((n : Int) + 2)) (.int .u64 (n : Int)))
                refine hK.out _ _ HG9.out.cells (fun hHeld9 => ?_)
                clear hK K hHeld4 z0 z1 z2 z3 y0 y1 y2 y3
                try simp only [List.getElem_toArray, List.getElem_cons_succ, List.getElem_cons_zero, Act.put, List.setIfInBounds_toArray, List.set_cons_zero, List.set_cons_succ]
                refine wpAnyH_take (i := 19) (oi := _) (v := ?_) rfl (by kernel_rfl) (by kernel_rfl) (by kernel_rfl) (fun _ _ _ h => h) (Or.inl ⟨by rfl, ?_⟩) (by assumption) ?_
                rotate_left
                · intro w5 hSw; (try dsimp only at hSw); go_simp; all_goals (with_reducible rfl)
                try simp only [List.getElem_toArray, List.getElem_cons_succ, List.getElem_cons_zero, Act.put, List.setIfInBounds_toArray, List.set_cons_zero, List.set_cons_succ]
                refine wpAnyH_done (by kernel_rfl) ?_ _
                clear hHeld9 
                clear x1 x2 x3 x4 d0 d1 d2 d3 HG9
                have HV := Kp.mk (swL_vok n a c q1 q2 q3)
                obtain ⟨A6, c6, hv6, hl6, hC6⟩ := Kd.R_reads HF9.out.r
                rw [swL_len n a c q2] at hv6 hl6 hC6
                cases hv6
                have HC6 := Kp.mk hC6
                clear hC6 hl6
                have e0 := HF9.out.cells.1
                have e1 := HF9.out.cells.2.1
                have e2 := HF9.out.cells.2.2.1
                have e3 := HF9.out.cells.2.2.2
                have y0 : (n : Int) - (c : Int) + 1 = ((n - c + 1 : Nat) : Int) := by omega
                have HY0 := Kp.mk y0
                clear y0
                have y1 : ((((n - c : Nat) : Int) + 1) != (n : Int) - (c : Int) + 1) = false := by rw [HY0.out]; simp
                go_wp2_with fail
                refine (num_any _ _).mono ?_
                rintro e w9 ⟨rfl, rfl⟩
                go_wp2_with fail
                go_loop [16] (fun i => ∃ j : Nat, j ≤ n - c + 1 ∧ i = .int .i64 j) (fun i => n - c + 1 - (intOf i).toNat)
                case atStart => exact ⟨0, Nat.zero_le _, rfl⟩
                case round =>
                  obtain ⟨j, hj, rfl⟩ := hrel
                  by_cases hlt3 : j < n - c + 1
                  · obtain ⟨ad, A3, c3, A4, c4, rfl, s0, _⟩ := rn_at HC6.out j hlt3
                    have hf : ((swL n a c).getD j zRn).file = swF n a c j := by rw [swL_get n a c j q2 q3 hlt3]; rfl
                    rw [hf] at s0
                    clear hf
                    have i3 : (j : Int) < ((n - c : Nat) : Int) + 1 := by omega
                    rcases Nat.lt_trichotomy j a with h3 | h3 | h3
                    · have hf : swF n a c j = (n : Int) - (j : Int) := by unfold swF; rw [if_pos h3]; omega
                      rw [hf] at s0
                      clear hf
                      have t1 : (j == a) = false := by simpa using (by omega : ¬ j = a)
                      have t2 : ((j : Int) == (a : Int)) = false := beq_eq_false_iff_ne.2 (by omega)
                      have t3 : decide (a < j) = false := decide_eq_false (by omega)
                      have t4 : decide ((a : Int) < (j : Int)) = false := decide_eq_false (by omega)
                      have t5 : ¬ j = a := by omega
                      have t6 : ¬ a < j := by omega
                      go_wp2_with fail
                      go_round
                      case rel => exact ⟨j + 1, by omega, by go_num⟩
                      case measure => simp [intOf]; omega
                    · have hf : swF n a c j = (n : Int) + 1 := by unfold swF; rw [if_neg (by omega), if_pos h3]; omega
                      rw [hf] at s0
                      clear hf
                      subst h3
                      have t3 : decide (j < j) = false := decide_eq_false (by omega)
                      go_wp2_with fail
                      go_round
                      case rel => exact ⟨j + 1, by omega, by go_num⟩
                      case measure => simp [intOf]; omega
                    · have hf : swF n a c j = (n : Int) - (j : Int) - (c : Int) + 1 := by unfold swF; rw [if_neg (by omega), if_neg (by omega)]; omega
                      rw [hf] at s0
                      clear hf
                      have t1 : (j == a) = false := by simpa using (by omega : ¬ j = a)
                      have t2 : ((j : Int) == (a : Int)) = false := beq_eq_false_iff_ne.2 (by omega)
                      have t3 : decide (a < j) = true := decide_eq_true (by omega)
                      have t4 : decide ((a : Int) < (j : Int)) = true := decide_eq_true (by omega)
                      have t5 : ¬ j = a := by omega
                      go_wp2_with fail
                      go_round
                      case rel => exact ⟨j + 1, by omega, by go_num⟩
                      case measure => simp [intOf]; omega
                  · have hlv := version_live (A := A5) (c := c5) (rs := swL n a c) ((n : Int) + 2) 0 n (by rw [swL_len n a c q2]; exact HC6.out) (by rw [swL_len n a c q2]; omega)
                    rw [swL_len n a c q2] at hlv
                    have HLv := Kp.mk hlv
                    clear hlv
                    go_wp2_with fail
                    refine HLv.out.mono ?_
                    rintro e w5 ⟨v5, l5, rfl, hR5, hP5, hB5⟩
                    have hl5 := live_len HV.out hP5
                    rw [swL_len n a c q2] at hl5
                    obtain ⟨A7, c7, rfl⟩ := Kd.R_slice hR5
                    rw [hl5]
                    have HB5 := Kp.mk ((HF9.out.b).trans (hB5.mono HF9.out.b.size))
                    clear hR5 hP5 hB5 hl5 HLv
                    have y2 : ((((n - c : Nat) : Int) + 1) == (n : Int) - (c : Int) + 1) = true := by rw [HY0.out]; simp
                    go_wp2_with fail
                    go_ret
                    exact ⟨rfl, HB5.out⟩
            · skip
              go_simp
              have HS2 := Kp.mk (HS1.out.below (alloc_below _ (.cells #[.slice none 0 0, .int .i64 0, .int .i64 0, .int .u64 0] 27)))
              have HZ : Kp ((World.alloc _ (.cells #[.slice none 0 0, .int .i64 0, .int .i64 0, .int .u64 0] 27)).heap[w2.heap.size]? = some (.cells #[.slice none 0 0, .int .i64 0, .int .i64 0, .int .u64 0] 27 (0, 0))) := ⟨heap_alloc_new w2 (.cells #[.slice none 0 0, .int .i64 0, .int .i64 0, .int .u64 0] 27)⟩
              have HP : Kp (g < w2.heap.size) := ⟨by have := lt_of_block HS1.out.z; simpa using this⟩
              have HPw : Kp (w.heap.size ≤ w2.heap.size) := ⟨by have := HS1.out.b.size; simpa using this⟩
              have HA := Kp.mk (Kd.C_alloc HA.out (.cells #[.slice none 0 0, .int .i64 0, .int .i64 0, .int .u64 0] 27))
              have HB2 := Kp.mk (Kd.C_alloc HB2.out (.cells #[.slice none 0 0, .int .i64 0, .int .i64 0, .int .u64 0] 27))
              have HX := Kp.mk (Kd.C_alloc HX.out (.cells #[.slice none 0 0, .int .i64 0, .int .i64 0, .int .u64 0] 27))
              refine hK.out _ _ HS2.out.cells (fun hHeld2 => ?_)
              clear hK K hHeld1
              try simp only [List.getElem_toArray, List.getElem_cons_succ, List.getElem_cons_zero, Act.put, List.setIfInBounds_toArray, List.set_cons_zero, List.set_cons_succ]
              refine wpAnyH_ready (rs := [8]) (by kernel_rfl) (by simp) ?_
              refine AllReadyH.cons (o := _) rfl (fun K hK => ?_) AllReadyH.nil
              go_simp
              have HS3 := Kp.mk (HS2.out.below (alloc_below _ (.cells #[.int .i64 ((n : Int) + 1), .int .i64 10, .int .i64 1, .slice (some ⟨g1, 0, none⟩) 1 1, .slice (some ⟨g2, 0, none⟩) 1 1, .int .u64 ((n : Int) - (a : Int))] 42)))
              have HZ := Kp.mk (blk_alloc HZ.out (.cells #[.int .i64 ((n : Int) + 1), .int .i64 10, .int .i64 1, .slice (some ⟨g1, 0, none⟩) 1 1, .slice (some ⟨g2, 0, none⟩) 1 1, .int .u64 ((n : Int) - (a : Int))] 42))
              have HQ : Kp (RunAt _ (w2.heap.size + 1) ((n : Int) + 1) ((n : Int) - (a : Int))) := ⟨by have := RunAt.made (f := ((n : Int) + 1)) (s := ((n : Int) - (a : Int))) HA.out HB2.out; rwa [show (w2.alloc (.cells #[.slice none 0 0, .int .i64 0, .int .i64 0, .int .u64 0] 27)).heap.size = w2.heap.size + 1 by simp] at this⟩
              have HX := Kp.mk (Kd.C_alloc HX.out (.cells #[.int .i64 ((n : Int) + 1), .int .i64 10, .int .i64 1, .slice (some ⟨g1, 0, none⟩) 1 1, .slice (some ⟨g2, 0, none⟩) 1 1, .int .u64 ((n : Int) - (a : Int))] 42))
              refine hK.out _ _ HS3.out.cells (fun hHeld3 => ?_)
              clear hK K hHeld2
              try simp only [List.getElem_toArray, List.getElem_cons_succ, List.getElem_cons_zero, Act.put, List.setIfInBounds_toArray, List.set_cons_zero, List.set_cons_succ]
              refine wpAnyH_take (i := 12) (oi := _) (v := ?_) rfl (by kernel_rfl) (by kernel_rfl) (by kernel_rfl) (fun _ _ _ h => h) (Or.inl ⟨by rfl, ?_⟩) (by assumption) ?_
              rotate_left
              · intro w5 hSw; (try dsimp only at hSw); go_simp; all_goals (with_reducible rfl)
              try simp only [List.getElem_toArray, List.getElem_cons_succ, List.getElem_cons_zero, Act.put, List.setIfInBounds_toArray, List.set_cons_zero, List.set_cons_succ]
              refine wpAnyH_ready (rs := [13]) (by kernel_rfl) (by simp) ?_
              refine AllReadyH.cons (o := _) rfl (fun K hK => ?_) AllReadyH.nil
              go_simp
              refine (swap_last HS3.out HCP.out HQ.out HX.out q1 q2 q3).mono ?_
              rintro e w4 ⟨A5, c5, rfl, hr, hbl⟩
              have HR := Kp.mk hr
              have HRb := Kp.mk (HS3.out.b.size)
              have HS4 := Kp.mk (HS3.out.below hbl)
              have HZ := Kp.mk ((hbl.block _ (lt_of_block HZ.out)).trans HZ.out)
              clear hr hbl
              refine hK.out _ _ HS4.out.cells (fun hHeld4 => ?_)
              clear hK K hHeld3
              try simp only [List.getElem_toArray, List.getElem_cons_succ, List.getElem_cons_zero, Act.put, List.setIfInBounds_toArray, List.set_cons_zero, List.set_cons_succ]
              refine wpAnyH_take (i := 14) (oi := _) (v := ?_) rfl (by kernel_rfl) (by kernel_rfl) (by kernel_rfl) (fun _ _ _ h => h) (Or.inl ⟨by rfl, ?_⟩) (by assumption) ?_
              rotate_left
              · intro w5 hSw; (try dsimp only at hSw); go_simp; all_goals (with_reducible rfl)
              try simp only [List.getElem_toArray, List.getElem_cons_succ, List.getElem_cons_zero, Act.put, List.setIfInBounds_toArray, List.set_cons_zero, List.set_cons_succ]
              refine wpAnyH_take (i := 15) (oi := _) (v := ?_) rfl (by kernel_rfl) (by kernel_rfl) (by kernel_rfl) (fun _ _ _ h => h) (Or.inl ⟨by rfl, ?_⟩) (by assumption) ?_
              rotate_left
              · intro w5 hSw; (try dsimp only at hSw); go_simp; all_goals (with_reducible rfl)
              try simp only [List.getElem_toArray, List.getElem_cons_succ, List.getElem_cons_zero, Act.put, List.setIfInBounds_toArray, List.set_cons_zero, List.set_cons_succ]
              refine wpAnyH_take (i := 16) (oi := _) (v := ?_) rfl (by kernel_rfl) (by kernel_rfl) (by kernel_rfl) (fun _ _ _ h => h) (Or.inl ⟨by rfl, ?_⟩) (by assumption) ?_
              rotate_left
              · intro w5 hSw; (try dsimp only at hSw); go_simp; all_goals (with_reducible rfl)
              try simp only [List.getElem_toArray, List.getElem_cons_succ, List.getElem_cons_zero, Act.put, List.setIfInBounds_toArray, List.set_cons_zero, List.set_cons_succ]
              refine wpAnyH_ready (rs := [18]) (by kernel_rfl) (by simp) ?_
              refine AllReadyH.cons (o := _) rfl (fun K hK => ?_) AllReadyH.nil
              have z0 := cells_top HZ.out 0 _ rfl
              have z1 := cells_top HZ.out 1 _ rfl
              have z2 := cells_top HZ.out 2 _ rfl
              have z3 := cells_top HZ.out 3 _ rfl
              have y0 := free_top HZ.out 0
              have y1 := free_top HZ.out 1
              have y2 := free_top HZ.out 2
              have y3 := free_top HZ.out 3
              go_simp
              have HG9 := Kp.mk (HS4.out.put HZ.out HP.out HPw.out (.slice A5 (n - c + 1) c5) (.int .i64 ((n : Int) + 2)) (.int .i64 0) (.int .u64 (n : Int)))
              have HF9 := Kp.mk (Sw.laid HS4.out.b HZ.out HPw.out HR.out HRb.out (.int .i64 ((n : Int) + 2)) (.int .u64 (n : Int)))
              refine hK.out _ _ HG9.out.cells (fun hHeld9 => ?_)
              clear hK K hHeld4 z0 z1 z2 z3 y0 y1 y2 y3
              try simp only [List.getElem_toArray, List.getElem_cons_succ, List.getElem_cons_zero, Act.put, List.setIfInBounds_toArray, List.set_cons_zero, List.set_cons_succ]
              refine wpAnyH_take (i := 19) (oi := _) (v := ?_) rfl (by kernel_rfl) (by kernel_rfl) (by kernel_rfl) (fun _ _ _ h => h) (Or.inl ⟨by rfl, ?_⟩) (by assumption) ?_
              rotate_left
              · intro w5 hSw; (try dsimp only at hSw); go_simp; all_goals (with_reducible rfl)
              try simp only [List.getElem_toArray, List.getElem_cons_succ, List.getElem_cons_zero, Act.put, List.setIfInBounds_toArray, List.set_cons_zero, List.set_cons_succ]
              refine wpAnyH_done (by kernel_rfl) ?_ _
              clear hHeld9 
              clear x1 x2 x3 x4 d0 d1 d2 d3 HG9
              have HV := Kp.mk (swL_vok n a c q1 q2 q3)
              obtain ⟨A6, c6, hv6, hl6, hC6⟩ := Kd.R_reads HF9.out.r
              rw [swL_len n a c q2] at hv6 hl6 hC6
              cases hv6
              have HC6 := Kp.mk hC6
              clear hC6 hl6
              have e0 := HF9.out.cells.1
              have e1 := HF9.out.cells.2.1
              have e2 := HF9.out.cells.2.2.1
              have e3 := HF9.out.cells.2.2.2
              have y0 : (n : Int) - (c : Int) + 1 = ((n - c + 1 : Nat) : Int) := by omega
              have HY0 := Kp.mk y0
              clear y0
              have y1 : ((((n - c : Nat) : Int) + 1) != (n : Int) - (c : Int) + 1) = false := by rw [HY0.out]; simp
              go_wp2_with fail
              refine (num_any _ _).mono ?_
              rintro e w9 ⟨rfl, rfl⟩
              go_wp2_with fail
              go_loop [16] (fun i => ∃ j : Nat, j ≤ n - c + 1 ∧ i = .int .i64 j) (fun i => n - c + 1 - (intOf i).toNat)
              case atStart => exact ⟨0, Nat.zero_le _, rfl⟩
              case round =>
                obtain ⟨j, hj, rfl⟩ := hrel
                by_cases hlt3 : j < n - c + 1
                · obtain ⟨ad, A3, c3, A4, c4, rfl, s0, _⟩ := rn_at HC6.out j hlt3
                  have hf : ((swL n a c).getD j zRn).file = swF n a c j := by rw [swL_get n a c j q2 q3 hlt3]; rfl
                  rw [hf] at s0
                  clear hf
                  have i3 : (j : Int) < ((n - c : Nat) : Int) + 1 := by omega
                  rcases Nat.lt_trichotomy j a with h3 | h3 | h3
                  · have hf : swF n a c j = (n : Int) - (j : Int) := by unfold swF; rw [if_pos h3]; omega
                    rw [hf] at s0
                    clear hf
                    have t1 : (j == a) = false := by simpa using (by omega : ¬ j = a)
                    have t2 : ((j : Int) == (a : Int)) = false := beq_eq_false_iff_ne.2 (by omega)
                    have t3 : decide (a < j) = false := decide_eq_false (by omega)
                    have t4 : decide ((a : Int) < (j : Int)) = false := decide_eq_false (by omega)
                    have t5 : ¬ j = a := by omega
                    have t6 : ¬ a < j := by omega
                    go_wp2_with fail
                    go_round
                    case rel => exact ⟨j + 1, by omega, by go_num⟩
                    case measure => simp [intOf]; omega
                  · have hf : swF n a c j = (n : Int) + 1 := by unfold swF; rw [if_neg (by omega), if_pos h3]; omega
                    rw [hf] at s0
                    clear hf
                    subst h3
                    have t3 : decide (j < j) = false := decide_eq_false (by omega)
                    go_wp2_with fail
                    go_round
                    case rel => exact ⟨j + 1, by omega, by go_num⟩
                    case measure => simp [intOf]; omega
                  · have hf : swF n a c j = (n : Int) - (j : Int) - (c : Int) + 1 := by unfold swF; rw [if_neg (by omega), if_neg (by omega)]; omega
                    rw [hf] at s0
                    clear hf
                    have t1 : (j == a) = false := by simpa using (by omega : ¬ j = a)
                    have t2 : ((j : Int) == (a : Int)) = false := beq_eq_false_iff_ne.2 (by omega)
                    have t3 : decide (a < j) = true := decide_eq_true (by omega)
                    have t4 : decide ((a : Int) < (j : Int)) = true := decide_eq_true (by omega)
                    have t5 : ¬ j = a := by omega
                    go_wp2_with fail
                    go_round
                    case rel => exact ⟨j + 1, by omega, by go_num⟩
                    case measure => simp [intOf]; omega
                · have hlv := version_live (A := A5) (c := c5) (rs := swL n a c) ((n : Int) + 2) 0 n (by rw [swL_len n a c q2]; exact HC6.out) (by rw [swL_len n a c q2]; omega)
                  rw [swL_len n a c q2] at hlv
                  have HLv := Kp.mk hlv
                  clear hlv
                  go_wp2_with fail
                  refine HLv.out.mono ?_
                  rintro e w5 ⟨v5, l5, rfl, hR5, hP5, hB5⟩
                  have hl5 := live_len HV.out hP5
                  rw [swL_len n a c q2] at hl5
                  obtain ⟨A7, c7, rfl⟩ := Kd.R_slice hR5
                  rw [hl5]
                  have HB5 := Kp.mk ((HF9.out.b).trans (hB5.mono HF9.out.b.size))
                  clear hR5 hP5 hB5 hl5 HLv
                  have y2 : ((((n - c : Nat) : Int) + 1) == (n : Int) - (c : Int) + 1) = true := by rw [HY0.out]; simp
                  go_wp2_with fail
                  go_ret
                  exact ⟨rfl, HB5.out⟩
          · skip
            go_simp
            have HS1 := Kp.mk (HD.out.below (alloc_below _ (.cells #[.slice none 0 0, .int .i64 0, .int .i64 0, .int .u64 0] 27)))
            have HZ : Kp ((World.alloc _ (.cells #[.slice none 0 0, .int .i64 0, .int .i64 0, .int .u64 0] 27)).heap[wr.heap.size]? = some (.cells #[.slice none 0 0, .int .i64 0, .int .i64 0, .int .u64 0] 27 (0, 0))) := ⟨heap_alloc_new wr.drew (.cells #[.slice none 0 0, .int .i64 0, .int .i64 0, .int .u64 0] 27)⟩
            have HP : Kp (g < wr.heap.size) := ⟨by have := lt_of_block HD.out.z; simpa using this⟩
            have HPw : Kp (w.heap.size ≤ wr.heap.size) := ⟨by have := HD.out.b.size; simpa using this⟩
            have HX := Kp.mk (Kd.C_alloc HX.out (.cells #[.slice none 0 0, .int .i64 0, .int .i64 0, .int .u64 0] 27))
            refine hK.out _ _ HS1.out.cells (fun hHeld1 => ?_)
            clear hK K hHeld
            try simp only [List.getElem_toArray, List.getElem_cons_succ, List.getElem_cons_zero, Act.put, List.setIfInBounds_toArray, List.set_cons_zero, List.set_cons_succ]
            refine wpAnyH_ready (rs := [7]) (by kernel_rfl) (by simp) ?_
            refine AllReadyH.cons (o := _) rfl (fun K hK => ?_) AllReadyH.nil
            go_simp
            refine (run_any _ _ _).mono ?_
            rintro e w2 ⟨g1, g2, rfl, ha, hb, hbl⟩
            have HA := Kp.mk ha
            have HB2 := Kp.mk hb
            have HS2 := Kp.mk (HS1.out.below hbl)
            have HZ := Kp.mk ((hbl.block _ (lt_of_block HZ.out)).trans HZ.out)
            have HX := Kp.mk (Kd.C_below HX.out hbl)
            clear ha hb hbl
            refine hK.out _ _ HS2.out.cells (fun hHeld2 => ?_)
            clear hK K hHeld1
            try simp only [List.getElem_toArray, List.getElem_cons_succ, List.getElem_cons_zero, Act.put, List.setIfInBounds_toArray, List.set_cons_zero, List.set_cons_succ]
            refine wpAnyH_ready (rs := [8]) (by kernel_rfl) (by simp) ?_
            refine AllReadyH.cons (o := _) rfl (fun K hK => ?_) AllReadyH.nil
            go_simp
            have HS3 := Kp.mk (HS2.out.below (alloc_below _ (.cells #[.int .i64 ((n : Int) + 1), .int .i64 10, .int .i64 1, .slice (some ⟨g1, 0, none⟩) 1 1, .slice (some ⟨g2, 0, none⟩) 1 1, .int .u64 ((n : Int) - (a : Int))] 42)))
            have HZ := Kp.mk (blk_alloc HZ.out (.cells #[.int .i64 ((n : Int) + 1), .int .i64 10, .int .i64 1, .slice (some ⟨g1, 0, none⟩) 1 1, .slice (some ⟨g2, 0, none⟩) 1 1, .int .u64 ((n : Int) - (a : Int))] 42))
            have HQ : Kp (RunAt _ w2.heap.size ((n : Int) + 1) ((n : Int) - (a : Int))) := ⟨RunAt.made HA.out HB2.out⟩
            have HX := Kp.mk (Kd.C_alloc HX.out (.cells #[.int .i64 ((n : Int) + 1), .int .i64 10, .int .i64 1, .slice (some ⟨g1, 0, none⟩) 1 1, .slice (some ⟨g2, 0, none⟩) 1 1, .int .u64 ((n : Int) - (a : Int))] 42))
            refine hK.out _ _ HS3.out.cells (fun hHeld3 => ?_)
            clear hK K hHeld2
            try simp only [List.getElem_toArray, List.getElem_cons_succ, List.getElem_cons_zero, Act.put, List.setIfInBounds_toArray, List.set_cons_zero, List.set_cons_succ]
            refine wpAnyH_take (i := 12) (oi := _) (v := ?_) rfl (by kernel_rfl) (by kernel_rfl) (by kernel_rfl) (fun _ _ _ h => h) (Or.inl ⟨by rfl, ?_⟩) (by assumption) ?_
            rotate_left
            · intro w5 hSw; (try dsimp only at hSw); go_simp; all_goals (with_reducible rfl)
            try simp only [List.getElem_toArray, List.getElem_cons_succ, List.getElem_cons_zero, Act.put, List.setIfInBounds_toArray, List.set_cons_zero, List.set_cons_succ]
            refine wpAnyH_ready (rs := [13]) (by kernel_rfl) (by simp) ?_
            refine AllReadyH.cons (o := _) rfl (fun K hK => ?_) AllReadyH.nil
            go_simp
            refine (swap_last HS3.out HCP.out HQ.out HX.out q1 q2 q3).mono ?_
            rintro e w4 ⟨A5, c5, rfl, hr, hbl⟩
            have HR := Kp.mk hr
            have HRb := Kp.mk (HS3.out.b.size)
            have HS4 := Kp.mk (HS3.out.below hbl)
            have HZ := Kp.mk ((hbl.block _ (lt_of_block HZ.out)).trans HZ.out)
            clear hr hbl
            refine hK.out _ _ HS4.out.cells (fun hHeld4 => ?_)
            clear hK K hHeld3
            try simp only [List.getElem_toArray, List.getElem_cons_succ, List.getElem_cons_zero, Act.put, List.setIfInBounds_toArray, List.set_cons_zero, List.set_cons_succ]
            refine wpAnyH_take (i := 14) (oi := _) (v := ?_) rfl (by kernel_rfl) (by kernel_rfl) (by kernel_rfl) (fun _ _ _ h => h) (Or.inl ⟨by rfl, ?_⟩) (by assumption) ?_
            rotate_left
            · intro w5 hSw; (try dsimp only at hSw); go_simp; all_goals (with_reducible rfl)
            try simp only [List.getElem_toArray, List.getElem_cons_succ, List.getElem_cons_zero, Act.put, List.setIfInBounds_toArray, List.set_cons_zero, List.set_cons_succ]
            refine wpAnyH_take (i := 15) (oi := _) (v := ?_) rfl (by kernel_rfl) (by kernel_rfl) (by kernel_rfl) (fun _ _ _ h => h) (Or.inl ⟨by rfl, ?_⟩) (by assumption) ?_
            rotate_left
            · intro w5 hSw; (try dsimp only at hSw); go_simp; all_goals (with_reducible rfl)
            try simp only [List.getElem_toArray, List.getElem_cons_succ, List.getElem_cons_zero, Act.put, List.setIfInBounds_toArray, List.set_cons_zero, List.set_cons_succ]
            refine wpAnyH_take (i := 16) (oi := _) (v := ?_) rfl (by kernel_rfl) (by kernel_rfl) (by kernel_rfl) (fun _ _ _ h => h) (Or.inl ⟨by rfl, ?_⟩) (by assumption) ?_
            rotate_left
            · intro w5 hSw; (try dsimp only at hSw); go_simp; all_goals (with_reducible rfl)
            try simp only [List.getElem_toArray, List.getElem_cons_succ, List.getElem_cons_zero, Act.put, List.setIfInBounds_toArray, List.set_cons_zero, List.set_cons_succ]
            refine wpAnyH_ready (rs := [18]) (by kernel_rfl) (by simp) ?_
            refine AllReadyH.cons (o := _) rfl (fun K hK => ?_) AllReadyH.nil
            have z0 := cells_top HZ.out 0 _ rfl
            have z1 := cells_top HZ.out 1 _ rfl
            have z2 := cells_top HZ.out 2 _ rfl
            have z3 := cells_top HZ.out 3 _ rfl
            have y0 := free_top HZ.out 0
            have y1 := free_top HZ.out 1
            have y2 := free_top HZ.out 2
            have y3 := free_top HZ.out 3
            go_simp
            have HG9 := Kp.mk (HS4.out.put HZ.out HP.out HPw.out (.slice A5 (n - c + 1) c5) (.int .i64 ((n : Int) + 2)) (.int .i64 0) (.int .u64 (n : Int)))
            have HF9 := Kp.mk (Sw.laid HS4.out.b HZ.out HPw.out HR.out HRb.out (.int .i64 ((n : Int) + 2)) (.int .u64 (n : Int)))
            refine hK.out _ _ HG9.out.cells (fun hHeld9 => ?_)
            clear hK K hHeld4 z0 z1 z2 z3 y0 y1 y2 y3
            try simp only [List.getElem_toArray, List.getElem_cons_succ, List.getElem_cons_zero, Act.put, List.setIfInBounds_toArray, List.set_cons_zero, List.set_cons_succ]
            refine wpAnyH_take (i := 19) (oi := _) (v := ?_) rfl (by kernel_rfl) (by kernel_rfl) (by kernel_rfl) (fun _ _ _ h => h) (Or.inl ⟨by rfl, ?_⟩) (by assumption) ?_
            rotate_left
            · intro w5 hSw; (try dsimp only at hSw); go_simp; all_goals (with_reducible rfl)
            try simp only [List.getElem_toArray, List.getElem_cons_succ, List.getElem_cons_zero, Act.put, List.setIfInBounds_toArray, List.set_cons_zero, List.set_cons_succ]
            refine wpAnyH_done (by kernel_rfl) ?_ _
            clear hHeld9 
            clear x1 x2 x3 x4 d0 d1 d2 d3 HG9
            have HV := Kp.mk (swL_vok n a c q1 q2 q3)
            obtain ⟨A6, c6, hv6, hl6, hC6⟩ := Kd.R_reads HF9.out.r
            rw [swL_len n a c q2] at hv6 hl6 hC6
            cases hv6
            have HC6 := Kp.mk hC6
            clear hC6 hl6
            have e0 := HF9.out.cells.1
            have e1 := HF9.out.cells.2.1
            have e2 := HF9.out.cells.2.2.1
            have e3 := HF9.out.cells.2.2.2
            have y0 : (n : Int) - (c : Int) + 1 = ((n - c + 1 : Nat) : Int) := by omega
            have HY0 := Kp.mk y0
            clear y0
            have y1 : ((((n - c : Nat) : Int) + 1) != (n : Int) - (c : Int) + 1) = false := by rw [HY0.out]; simp
            go_wp2_with fail
            refine (num_any _ _).mono ?_
            rintro e w9 ⟨rfl, rfl⟩
            go_wp2_with fail
            go_loop [16] (fun i => ∃ j : Nat, j ≤ n - c + 1 ∧ i = .int .i64 j) (fun i => n - c + 1 - (intOf i).toNat)
            case atStart => exact ⟨0, Nat.zero_le _, rfl⟩
            case round =>
              obtain ⟨j, hj, rfl⟩ := hrel
              by_cases hlt3 : j < n - c + 1
              · obtain ⟨ad, A3, c3, A4, c4, rfl, s0, _⟩ := rn_at HC6.out j hlt3
                have hf : ((swL n a c).getD j zRn).file = swF n a c j := by rw [swL_get n a c j q2 q3 hlt3]; rfl
                rw [hf] at s0
                clear hf
                have i3 : (j : Int) < ((n - c : Nat) : Int) + 1 := by omega
                rcases Nat.lt_trichotomy j a with h3 | h3 | h3
                · have hf : swF n a c j = (n : Int) - (j : Int) := by unfold swF; rw [if_pos h3]; omega
                  rw [hf] at s0
                  clear hf
                  have t1 : (j == a) = false := by simpa using (by omega : ¬ j = a)
                  have t2 : ((j : Int) == (a : Int)) = false := beq_eq_false_iff_ne.2 (by omega)
                  have t3 : decide (a < j) = false := decide_eq_false (by omega)
                  have t4 : decide ((a : Int) < (j : Int)) = false := decide_eq_false (by omega)
                  have t5 : ¬ j = a := by omega
                  have t6 : ¬ a < j := by omega
                  go_wp2_with fail
                  go_round
                  case rel => exact ⟨j + 1, by omega, by go_num⟩
                  case measure => simp [intOf]; omega
                · have hf : swF n a c j = (n : Int) + 1 := by unfold swF; rw [if_neg (by omega), if_pos h3]; omega
                  rw [hf] at s0
                  clear hf
                  subst h3
                  have t3 : decide (j < j) = false := decide_eq_false (by omega)
                  go_wp2_with fail
                  go_round
                  case rel => exact ⟨j + 1, by omega, by go_num⟩
                  case measure => simp [intOf]; omega
                · have hf : swF n a c j = (n : Int) - (j : Int) - (c : Int) + 1 := by unfold swF; rw [if_neg (by omega), if_neg (by omega)]; omega
                  rw [hf] at s0
                  clear hf
                  have t1 : (j == a) = false := by simpa using (by omega : ¬ j = a)
                  have t2 : ((j : Int) == (a : Int)) = false := beq_eq_false_iff_ne.2 (by omega)
                  have t3 : decide (a < j) = true := decide_eq_true (by omega)
                  have t4 : decide ((a : Int) < (j : Int)) = true := decide_eq_true (by omega)
                  have t5 : ¬ j = a := by omega
                  go_wp2_with fail
                  go_round
                  case rel => exact ⟨j + 1, by omega, by go_num⟩
                  case measure => simp [intOf]; omega
              · have hlv := version_live (A := A5) (c := c5) (rs := swL n a c) ((n : Int) + 2) 0 n (by rw [swL_len n a c q2]; exact HC6.out) (by rw [swL_len n a c q2]; omega)
                rw [swL_len n a c q2] at hlv
                have HLv := Kp.mk hlv
                clear hlv
                go_wp2_with fail
                refine HLv.out.mono ?_
                rintro e w5 ⟨v5, l5, rfl, hR5, hP5, hB5⟩
                have hl5 := live_len HV.out hP5
                rw [swL_len n a c q2] at hl5
                obtain ⟨A7, c7, rfl⟩ := Kd.R_slice hR5
                rw [hl5]
                have HB5 := Kp.mk ((HF9.out.b).trans (hB5.mono HF9.out.b.size))
                clear hR5 hP5 hB5 hl5 HLv
                have y2 : ((((n - c : Nat) : Int) + 1) == (n : Int) - (c : Int) + 1) = true := by rw [HY0.out]; simp
                go_wp2_with fail
                go_ret
                exact ⟨rfl, HB5.out⟩
end Go.Proofs.Ytgfkpddmjcgceaa.Kx
