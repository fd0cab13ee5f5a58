import Derived.Test.YtgfkpddmjcgceaaVrR
set_option linter.unusedVariables false
set_option linter.unusedSimpArgs false
namespace Go.Proofs.Ytgfkpddmjcgceaa.Kx
open Go.RowKit Go.Maps Go.Proofs.YtgfkpddmjcgceaaW.PrintWords

set_option maxHeartbeats 8000000 in
set_option maxRecDepth 100000 in
theorem version_errors (x : Int) (w : World) : Calls Try.prog 4 #[.int .i64 x] w fun e w' => e = .returned (.bool true) ∧ Below w.heap.size w w' := by
  go_enter Try.func4, Try.ntmps4
  go_wp2_with fail
  refine (alive_any _).mono ?_
  rintro e w1 ⟨rfl, hb⟩
  have HL0 := Kp.mk hb
  clear hb
  go_wp2_with fail
  refine (run_any 1 1 _).mono ?_
  rintro e w2 ⟨p1, q1, rfl, ha, hb, hbl⟩
  have HA1 := Kp.mk ha
  have HB1 := Kp.mk hb
  have HL1 := Kp.mk hbl
  clear ha hb hbl
  go_wp2_with fail
  refine (run_any 2 2 _).mono ?_
  rintro e w3 ⟨p2, q2, rfl, ha, hb, hbl⟩
  have HA2 := Kp.mk ha
  have HB2 := Kp.mk hb
  have HL2 := Kp.mk hbl
  clear ha hb hbl
  go_wp2_with fail
  refine (run_any 3 3 _).mono ?_
  rintro e w4 ⟨p3, q3, rfl, ha, hb, hbl⟩
  have HA3 := Kp.mk ha
  have HB3 := Kp.mk hb
  have HL3 := Kp.mk hbl
  clear ha hb hbl
  have e1 : (w4.alloc (.cells #[.int .i64 3, .int .i64 10, .int .i64 1, .slice (some ⟨p3, 0, none⟩) 1 1, .slice (some ⟨q3, 0, none⟩) 1 1, .int .u64 3] 42)).heap[w2.heap.size]? = some (.cells #[.int .i64 1, .int .i64 10, .int .i64 1, .slice (some ⟨p1, 0, none⟩) 1 1, .slice (some ⟨q1, 0, none⟩) 1 1, .int .u64 1] 42) := heap_newb (below_on HL2.out (below_on (below_new HL3.out) (alloc_below _ _)))
  have e2 : (w4.alloc (.cells #[.int .i64 3, .int .i64 10, .int .i64 1, .slice (some ⟨p3, 0, none⟩) 1 1, .slice (some ⟨q3, 0, none⟩) 1 1, .int .u64 3] 42)).heap[w3.heap.size]? = some (.cells #[.int .i64 2, .int .i64 10, .int .i64 1, .slice (some ⟨p2, 0, none⟩) 1 1, .slice (some ⟨q2, 0, none⟩) 1 1, .int .u64 2] 42) := heap_newb (below_on HL3.out (alloc_below _ _))
  obtain ⟨c10, c11, c12, c13, c14, c15⟩ := run_cells e1
  obtain ⟨c20, c21, c22, c23, c24, c25⟩ := run_cells e2
  have E1 := Kp.mk e1
  have E2 := Kp.mk e2
  clear e1 e2
  go_wp2_with fail
  clear c10 c11 c12 c13 c14 c15 c20 c21 c22 c23 c24 c25
  refine (run_any 2 9 _).mono ?_
  rintro e w5 ⟨p4, q4, rfl, ha, hb, hbl⟩
  have HA4 := Kp.mk ha
  have HB4 := Kp.mk hb
  have HL4 := Kp.mk hbl
  clear ha hb hbl
  go_wp2_with fail
  refine (run_any 4 4 _).mono ?_
  rintro e w6 ⟨p5, q5, rfl, ha, hb, hbl⟩
  have HA5 := Kp.mk ha
  have HB5 := Kp.mk hb
  have HL5 := Kp.mk hbl
  clear ha hb hbl
  go_wp2_with fail
  refine (run_any 4 4 _).mono ?_
  rintro e w7 ⟨p6, q6, rfl, ha, hb, hbl⟩
  have HA6 := Kp.mk ha
  have HB6 := Kp.mk hb
  have HL6 := Kp.mk hbl
  clear ha hb hbl
  go_wp2_with fail
  refine (run_any 4 4 _).mono ?_
  rintro e w8 ⟨p7, q7, rfl, ha, hb, hbl⟩
  have HA7 := Kp.mk ha
  have HB7 := Kp.mk hb
  have HL7 := Kp.mk hbl
  clear ha hb hbl
  go_wp2_with fail
  refine (run_any 3 3 _).mono ?_
  rintro e w9 ⟨p8, q8, rfl, ha, hb, hbl⟩
  have HA8 := Kp.mk ha
  have HB8 := Kp.mk hb
  have HL8 := Kp.mk hbl
  clear ha hb hbl
  go_wp2_with fail
  refine (run_any 2 1 _).mono ?_
  rintro e w10 ⟨p9, q9, rfl, ha, hb, hbl⟩
  have HA9 := Kp.mk ha
  have HB9 := Kp.mk hb
  have HL9 := Kp.mk hbl
  clear ha hb hbl
  have HT : Kp (∀ W, Below w10.heap.size w10 W → Below w.heap.size w W) := ⟨fun W B10 => below_on HL0.out (below_on HL1.out (nest1 (below_on HL2.out (nest1 (below_on HL3.out (nest4 (below_on HL4.out (nest2 (below_on HL5.out (nest1 (below_on HL6.out (nest1 (below_on HL7.out (nest1 (below_on HL8.out (nest5 (below_on HL9.out B10)).1)).1)).1)).1)).1)).1)).1)).1)⟩
  go_wp2_with fail
  all_goals try (go_ret; exact ⟨rfl, HT.out _ (below_on (alloc_below _ _) (below_on (alloc_below _ _) (below_on (alloc_below _ _) (alloc_below _ _))))⟩)
  refine wp_named4 (fun W B10 f100 f101 f102 f103 => ?_)
  have HW := Kp.mk (HT.out W B10)
  have RS : Kp ([rnOf 3 3, rnOf 2 2, rnOf 1 1].length = 3) := ⟨rfl⟩
  obtain ⟨B9, f90, f91, f92, f93, f94⟩ := nest5 (below_on HL9.out B10)
  obtain ⟨B8, f8⟩ := nest1 (below_on HL8.out B9)
  obtain ⟨B7, f7⟩ := nest1 (below_on HL7.out B8)
  obtain ⟨B6, f6⟩ := nest1 (below_on HL6.out B7)
  obtain ⟨B5, f50, f51⟩ := nest2 (below_on HL5.out B6)
  obtain ⟨B4, f40, f41, f42, f43⟩ := nest4 (below_on HL4.out B5)
  obtain ⟨B3, f3⟩ := nest1 (below_on HL3.out B4)
  obtain ⟨B2, f2⟩ := nest1 (below_on HL2.out B3)
  have K1 := rnV_K (f := 1) (s := 1) (Kd.C_below HA1.out B2) (Kd.C_below HB1.out B2)
  have K2 := rnV_K (f := 2) (s := 2) (Kd.C_below HA2.out B3) (Kd.C_below HB2.out B3)
  have K3 := rnV_K (f := 3) (s := 3) (Kd.C_below HA3.out B4) (Kd.C_below HB3.out B4)
  have K4 := rnV_K (f := 2) (s := 9) (Kd.C_below HA4.out B5) (Kd.C_below HB4.out B5)
  have K5 := rnV_K (f := 4) (s := 4) (Kd.C_below HA5.out B6) (Kd.C_below HB5.out B6)
  have K6 := rnV_K (f := 4) (s := 4) (Kd.C_below HA6.out B7) (Kd.C_below HB6.out B7)
  have K7 := rnV_K (f := 4) (s := 4) (Kd.C_below HA7.out B8) (Kd.C_below HB7.out B8)
  have K8 := rnV_K (f := 3) (s := 3) (Kd.C_below HA8.out B9) (Kd.C_below HB8.out B9)
  have K9 := rnV_K (f := 2) (s := 1) (Kd.C_below HA9.out B10) (Kd.C_below HB9.out B10)
  have HV := runs_three f41 rfl rfl rfl (by intro i u h; rcases i with _|_|_|_|_|_|i <;> first | exact h | (simp [rnV] at h)) (by intro i u h; rcases i with _|_|_|_|_|_|i <;> first | exact h | (simp [rnV] at h)) (by intro i u h; rcases i with _|_|_|_|_|_|i <;> first | exact h | (simp [rnV] at h)) K3 K2 K1
  have R4 := runs_one f50 rfl (by intro i u h; rcases i with _|_|_|_|_|_|i <;> first | exact h | (simp [rnV] at h)) K4
  have R5 := runs_one f6 rfl (by intro i u h; rcases i with _|_|_|_|_|_|i <;> first | exact h | (simp [rnV] at h)) K5
  have R6 := runs_one f7 rfl (by intro i u h; rcases i with _|_|_|_|_|_|i <;> first | exact h | (simp [rnV] at h)) K6
  have R7 := runs_one f8 rfl (by intro i u h; rcases i with _|_|_|_|_|_|i <;> first | exact h | (simp [rnV] at h)) K7
  have R8 := runs_one f90 rfl (by intro i u h; rcases i with _|_|_|_|_|_|i <;> first | exact h | (simp [rnV] at h)) K8
  have R9 := runs_one f100 rfl (by intro i u h; rcases i with _|_|_|_|_|_|i <;> first | exact h | (simp [rnV] at h)) K9
  have HE : ∃ (add : List Rn) (drop : List Int) (A1 A2 : Option Addr) (c1 c2 : Nat) (enx elg esq wv : Int) (a0 : Nat),
      W.cell? (Addr.add ⟨w10.heap.size + 1 + 1, 0, none⟩ (x.toNat * 5)) = some (.slice A1 add.length c1) ∧ W.cell? ⟨(Addr.add ⟨w10.heap.size + 1 + 1, 0, none⟩ (x.toNat * 5)).block, (Addr.add ⟨w10.heap.size + 1 + 1, 0, none⟩ (x.toNat * 5)).off + 1, none⟩ = some (.slice A2 drop.length c2) ∧ W.cell? ⟨(Addr.add ⟨w10.heap.size + 1 + 1, 0, none⟩ (x.toNat * 5)).block, (Addr.add ⟨w10.heap.size + 1 + 1, 0, none⟩ (x.toNat * 5)).off + 2, none⟩ = some (.int .i64 enx) ∧ W.cell? ⟨(Addr.add ⟨w10.heap.size + 1 + 1, 0, none⟩ (x.toNat * 5)).block, (Addr.add ⟨w10.heap.size + 1 + 1, 0, none⟩ (x.toNat * 5)).off + 3, none⟩ = some (.int .i64 elg) ∧ W.cell? ⟨(Addr.add ⟨w10.heap.size + 1 + 1, 0, none⟩ (x.toNat * 5)).block, (Addr.add ⟨w10.heap.size + 1 + 1, 0, none⟩ (x.toNat * 5)).off + 4, none⟩ = some (.int .u64 esq)
      ∧ W.cell? (Addr.add ⟨w10.heap.size + 1 + 1 + 1, 0, none⟩ x.toNat) = some (.int .i64 wv) ∧ kRn.C W A1 add.length add ∧ (Kd.int .i64).C W A2 drop.length drop ∧ 0 ≤ esq ∧ IsAt [rnOf 3 3, rnOf 2 2, rnOf 1 1] drop a0 ∧ applyX [rnOf 3 3, rnOf 2 2, rnOf 1 1] 4 9 3 add drop enx elg esq a0 = wv := by
    have hx : x = 0 ∨ x = 1 ∨ x = 2 ∨ x = 3 ∨ x = 4 ∨ x = 5 ∨ x = 6 ∨ x = 7 ∨ x = 8 ∨ x = 9 ∨ x = 10 ∨ x = 11 ∨ x = 12 ∨ x = 13 ∨ x = 14 := by omega
    rcases hx with rfl|rfl|rfl|rfl|rfl|rfl|rfl|rfl|rfl|rfl|rfl|rfl|rfl|rfl|rfl
    · exact ⟨[], [7], none, some ⟨w4.heap.size + 1 + 1 + 1, 0, none⟩, 0, 1, 0, 0, 0, 8, 0, cells_top f102 0 _ rfl, cells_top f102 1 _ rfl, cells_top f102 2 _ rfl, cells_top f102 3 _ rfl, cells_top f102 4 _ rfl, cells_top f103 0 _ rfl, Kd.C_nil _ _, (ints_block [7] f43 (by intro j hj; rcases j with _|j <;> first | rfl | (simp at hj; done) | (simp at hj; omega)) (by decide)), by decide, by decide, by decide⟩
    · exact ⟨[rnOf 2 9], [], some ⟨w5.heap.size, 0, none⟩, none, 1, 0, 0, 0, 0, 9, 0, cells_top f102 5 _ rfl, cells_top f102 6 _ rfl, cells_top f102 7 _ rfl, cells_top f102 8 _ rfl, cells_top f102 9 _ rfl, cells_top f103 1 _ rfl, R4, Kd.C_nil _ _, by decide, by decide, by decide⟩
    · exact ⟨[], [3, 1], none, some ⟨w5.heap.size + 1, 0, none⟩, 0, 2, 0, 0, 0, 10, 0, cells_top f102 10 _ rfl, cells_top f102 11 _ rfl, cells_top f102 12 _ rfl, cells_top f102 13 _ rfl, cells_top f102 14 _ rfl, cells_top f103 2 _ rfl, Kd.C_nil _ _, (ints_block [3, 1] f51 (by intro j hj; rcases j with _|_|j <;> first | rfl | (simp at hj; done) | (simp at hj; omega)) (by decide)), by decide, by decide, by decide⟩
    · exact ⟨[], [], none, none, 0, 0, 3, 0, 0, 10, 0, cells_top f102 15 _ rfl, cells_top f102 16 _ rfl, cells_top f102 17 _ rfl, cells_top f102 18 _ rfl, cells_top f102 19 _ rfl, cells_top f103 3 _ rfl, Kd.C_nil _ _, Kd.C_nil _ _, by decide, by decide, by decide⟩
    · exact ⟨[], [], none, none, 0, 0, 0, 8, 0, 10, 0, cells_top f102 20 _ rfl, cells_top f102 21 _ rfl, cells_top f102 22 _ rfl, cells_top f102 23 _ rfl, cells_top f102 24 _ rfl, cells_top f103 4 _ rfl, Kd.C_nil _ _, Kd.C_nil _ _, by decide, by decide, by decide⟩
    · exact ⟨[], [], none, none, 0, 0, 0, 0, 2, 10, 0, cells_top f102 25 _ rfl, cells_top f102 26 _ rfl, cells_top f102 27 _ rfl, cells_top f102 28 _ rfl, cells_top f102 29 _ rfl, cells_top f103 5 _ rfl, Kd.C_nil _ _, Kd.C_nil _ _, by decide, by decide, by decide⟩
    · exact ⟨[rnOf 4 4], [], some ⟨w6.heap.size, 0, none⟩, none, 1, 0, 0, 0, 0, 10, 0, cells_top f102 30 _ rfl, cells_top f102 31 _ rfl, cells_top f102 32 _ rfl, cells_top f102 33 _ rfl, cells_top f102 34 _ rfl, cells_top f103 6 _ rfl, R5, Kd.C_nil _ _, by decide, by decide, by decide⟩
    · exact ⟨[rnOf 4 4], [], some ⟨w7.heap.size, 0, none⟩, none, 1, 0, 5, 0, 0, 10, 0, cells_top f102 35 _ rfl, cells_top f102 36 _ rfl, cells_top f102 37 _ rfl, cells_top f102 38 _ rfl, cells_top f102 39 _ rfl, cells_top f103 7 _ rfl, R6, Kd.C_nil _ _, by decide, by decide, by decide⟩
    · exact ⟨[rnOf 4 4], [], some ⟨w8.heap.size, 0, none⟩, none, 1, 0, 5, 0, 4, 0, 0, cells_top f102 40 _ rfl, cells_top f102 41 _ rfl, cells_top f102 42 _ rfl, cells_top f102 43 _ rfl, cells_top f102 44 _ rfl, cells_top f103 8 _ rfl, R7, Kd.C_nil _ _, by decide, by decide, by decide⟩
    · exact ⟨[rnOf 3 3], [3, 2], some ⟨w9.heap.size, 0, none⟩, some ⟨w9.heap.size + 1, 0, none⟩, 1, 2, 0, 0, 0, 0, 0, cells_top f102 45 _ rfl, cells_top f102 46 _ rfl, cells_top f102 47 _ rfl, cells_top f102 48 _ rfl, cells_top f102 49 _ rfl, cells_top f103 9 _ rfl, R8, (ints_block [3, 2] f91 (by intro j hj; rcases j with _|_|j <;> first | rfl | (simp at hj; done) | (simp at hj; omega)) (by decide)), by decide, by decide, by decide⟩
    · exact ⟨[], [2], none, some ⟨w9.heap.size + 1 + 1, 0, none⟩, 0, 1, 0, 0, 0, 0, 1, cells_top f102 50 _ rfl, cells_top f102 51 _ rfl, cells_top f102 52 _ rfl, cells_top f102 53 _ rfl, cells_top f102 54 _ rfl, cells_top f103 10 _ rfl, Kd.C_nil _ _, (ints_block [2] f92 (by intro j hj; rcases j with _|j <;> first | rfl | (simp at hj; done) | (simp at hj; omega)) (by decide)), by decide, by decide, by decide⟩
    · exact ⟨[], [1, 1], none, some ⟨w9.heap.size + 1 + 1 + 1, 0, none⟩, 0, 2, 0, 0, 0, 1, 2, cells_top f102 55 _ rfl, cells_top f102 56 _ rfl, cells_top f102 57 _ rfl, cells_top f102 58 _ rfl, cells_top f102 59 _ rfl, cells_top f103 11 _ rfl, Kd.C_nil _ _, (ints_block [1, 1] f93 (by intro j hj; rcases j with _|_|j <;> first | rfl | (simp at hj; done) | (simp at hj; omega)) (by decide)), by decide, by decide, by decide⟩
    · exact ⟨[], [], none, none, 0, 0, 0, 0, 0, 0, 0, cells_top f102 60 _ rfl, cells_top f102 61 _ rfl, cells_top f102 62 _ rfl, cells_top f102 63 _ rfl, cells_top f102 64 _ rfl, cells_top f103 12 _ rfl, Kd.C_nil _ _, Kd.C_nil _ _, by decide, by decide, by decide⟩
    · exact ⟨[], [1, 2, 3], none, some ⟨w9.heap.size + 1 + 1 + 1 + 1, 0, none⟩, 0, 3, 0, 0, 0, 0, 0, cells_top f102 65 _ rfl, cells_top f102 66 _ rfl, cells_top f102 67 _ rfl, cells_top f102 68 _ rfl, cells_top f102 69 _ rfl, cells_top f103 13 _ rfl, Kd.C_nil _ _, (ints_block [1, 2, 3] f94 (by intro j hj; rcases j with _|_|_|j <;> first | rfl | (simp at hj; done) | (simp at hj; omega)) (by decide)), by decide, by decide, by decide⟩
    · exact ⟨[rnOf 2 1], [2], some ⟨w10.heap.size, 0, none⟩, some ⟨w10.heap.size + 1, 0, none⟩, 1, 1, 0, 0, 0, 10, 1, cells_top f102 70 _ rfl, cells_top f102 71 _ rfl, cells_top f102 72 _ rfl, cells_top f102 73 _ rfl, cells_top f102 74 _ rfl, cells_top f103 14 _ rfl, R9, (ints_block [2] f101 (by intro j hj; rcases j with _|j <;> first | rfl | (simp at hj; done) | (simp at hj; omega)) (by decide)), by decide, by decide, by decide⟩
  clear K1 K2 K3 K4 K5 K6 K7 K8 K9 R4 R5 R6 R7 R8 R9 f100 f101 f102 f103 f90 f91 f92 f93 f94 f8 f7 f6 f50 f51 f40 f41 f43 f3 f2 B2 B3 B4 B5 B6 B7 B8 B9 B10
  obtain ⟨add, drop, A1, A2, c1, c2, enx, elg, esq, wv, a0, d0, d1, d2, d3, d4, d5, h1, h2, h3, h4, h5⟩ := HE
  have v0 : W.cell? ⟨w4.heap.size + 1 + 1, 0, none⟩ = some (.slice (some ⟨w4.heap.size + 1, 0, none⟩) 3 3) := cells_top f42 0 _ rfl
  have v1 : W.cell? ⟨w4.heap.size + 1 + 1, 1, none⟩ = some (.int .i64 4) := cells_top f42 1 _ rfl
  have v2 : W.cell? ⟨w4.heap.size + 1 + 1, 2, none⟩ = some (.int .i64 9) := cells_top f42 2 _ rfl
  have v3 : W.cell? ⟨w4.heap.size + 1 + 1, 3, none⟩ = some (.int .u64 3) := cells_top f42 3 _ rfl
  have HAp : Kp (∀ W', Below W.heap.size W W' → Calls Try.prog 10 #[.agg #[.slice (some ⟨w4.heap.size + 1, 0, none⟩) 3 3, .int .i64 4, .int .i64 9, .int .u64 3], .agg #[.slice A1 add.length c1, .slice A2 drop.length c2, .int .i64 enx, .int .i64 elg, .int .u64 esq]] W' (fun e w' => ∃ A3 n3 c3 a b c, e = .returned (.tuple #[.agg #[.slice A3 n3 c3, .int .i64 a, .int .i64 b, .int .u64 c], .int .i64 wv]) ∧ Below W'.heap.size W' w' ∧ Below W.heap.size W w')) := ⟨fun W' hW => by
    refine (version_apply (rs := [rnOf 3 3, rnOf 2 2, rnOf 1 1]) (c := 3) 4 9 3 enx elg esq (Kd.C_below HV hW) (Nat.le_refl _) (Kd.C_below h1 hW) (Kd.C_below h2 hW) (by omega) h3).mono ?_
    rintro e w' ⟨y, l, a, b, c, v, rfl, hR, hv, hb⟩
    have hy := apply_x hR h4
    rw [h5] at hy
    subst hy
    obtain ⟨A3, c3, rfl⟩ := Kd.R_slice hv
    exact ⟨A3, _, c3, a, b, c, rfl, hb, hW.trans (hb.mono hW.size)⟩⟩
  clear HV h1 h2 h3 h4 h5 f42 RS HA1 HA2 HA3 HA4 HA5 HA6 HA7 HA8 HA9 HB1 HB2 HB3 HB4 HB5 HB6 HB7 HB8 HB9 HL2 HL3 HL4 HL5 HL6 HL7 HL8 HL9 E1 E2
  generalize (⟨w10.heap.size + 1 + 1, 0, none⟩ : Addr) = ae at d0 d1 d2 d3 d4 ⊢
  generalize (⟨w10.heap.size + 1 + 1 + 1, 0, none⟩ : Addr) = aw at d5 ⊢
  have hx0 : 0 ≤ x := by omega
  have hx1 : x < 15 := by omega
  have hx2 : x.toNat < 15 := by omega
  have hq0 : Kp (Below W.heap.size W W.drew) := ⟨(Below.refl _ _).drew⟩
  have hq1 : Kp (Below W.heap.size W (W.drew.alloc (.cells #[.slice none 0 0, .int .i64 0, .int .i64 0, .int .u64 0] 27))) := ⟨((Below.refl _ _).drew).alloc (by simp) _⟩
  have ne_v0 := World.new_ne W _ v0
  have ne_v1 := World.new_ne W _ v1
  have ne_v2 := World.new_ne W _ v2
  have ne_v3 := World.new_ne W _ v3
  have ne_d0 := World.new_ne W _ d0
  have ne_d1 := World.new_ne W _ d1
  have ne_d2 := World.new_ne W _ d2
  have ne_d3 := World.new_ne W _ d3
  have ne_d4 := World.new_ne W _ d4
  have ne_d5 := World.new_ne W _ d5
  go_region_held3 (fun V => V.cell? ⟨w4.heap.size + 1 + 1, 0, none⟩ = some (.slice (some ⟨w4.heap.size + 1, 0, none⟩) 3 3) ∧ V.cell? ⟨w4.heap.size + 1 + 1, 1, none⟩ = some (.int .i64 4) ∧ V.cell? ⟨w4.heap.size + 1 + 1, 2, none⟩ = some (.int .i64 9) ∧ V.cell? ⟨w4.heap.size + 1 + 1, 3, none⟩ = some (.int .u64 3) ∧ V.cell? (ae.add (x.toNat * 5)) = some (.slice A1 add.length c1) ∧ V.cell? ⟨(ae.add (x.toNat * 5)).block, (ae.add (x.toNat * 5)).off + 1, none⟩ = some (.slice A2 drop.length c2) ∧ V.cell? ⟨(ae.add (x.toNat * 5)).block, (ae.add (x.toNat * 5)).off + 2, none⟩ = some (.int .i64 enx) ∧ V.cell? ⟨(ae.add (x.toNat * 5)).block, (ae.add (x.toNat * 5)).off + 3, none⟩ = some (.int .i64 elg) ∧ V.cell? ⟨(ae.add (x.toNat * 5)).block, (ae.add (x.toNat * 5)).off + 4, none⟩ = some (.int .u64 esq) ∧ V.cell? (aw.add x.toNat) = some (.int .i64 wv)) (first | go_keep | exact ⟨pw_cell_below HBB.out v0, pw_cell_below HBB.out v1, pw_cell_below HBB.out v2, pw_cell_below HBB.out v3, pw_cell_below HBB.out d0, pw_cell_below HBB.out d1, pw_cell_below HBB.out d2, pw_cell_below HBB.out d3, pw_cell_below HBB.out d4, pw_cell_below HBB.out d5⟩ | exact ⟨pw_cell_below (HBB.out.alloc HBB.out.size _) v0, pw_cell_below (HBB.out.alloc HBB.out.size _) v1, pw_cell_below (HBB.out.alloc HBB.out.size _) v2, pw_cell_below (HBB.out.alloc HBB.out.size _) v3, pw_cell_below (HBB.out.alloc HBB.out.size _) d0, pw_cell_below (HBB.out.alloc HBB.out.size _) d1, pw_cell_below (HBB.out.alloc HBB.out.size _) d2, pw_cell_below (HBB.out.alloc HBB.out.size _) d3, pw_cell_below (HBB.out.alloc HBB.out.size _) d4, pw_cell_below (HBB.out.alloc HBB.out.size _) d5⟩)
    ((go_at_call 10; first
    | (refine (HAp.out (W.drew.alloc (.cells #[.slice none 0 0, .int .i64 0, .int .i64 0, .int .u64 0] 27)) hq1.out).mono ?_; rintro e w' ⟨A3, n3, c3, a, b, c, rfl, hb, hW⟩; have n0 : w'.cell? ⟨W.heap.size, 0, none⟩ = some (.slice none 0 0) := cell_newb hb 0 _ rfl; have m0 : w'.frozen? ⟨W.heap.size, 0, none⟩ = false := free_top (heap_newb hb) 0; have n1 : w'.cell? ⟨W.heap.size, 1, none⟩ = some (.int .i64 0) := cell_newb hb 1 _ rfl; have m1 : w'.frozen? ⟨W.heap.size, 1, none⟩ = false := free_top (heap_newb hb) 1; have n2 : w'.cell? ⟨W.heap.size, 2, none⟩ = some (.int .i64 0) := cell_newb hb 2 _ rfl; have m2 : w'.frozen? ⟨W.heap.size, 2, none⟩ = false := free_top (heap_newb hb) 2; have n3 : w'.cell? ⟨W.heap.size, 3, none⟩ = some (.int .u64 0) := cell_newb hb 3 _ rfl; have m3 : w'.frozen? ⟨W.heap.size, 3, none⟩ = false := free_top (heap_newb hb) 3; have me_v0 := World.new_ne w' _ (pw_cell_below hW v0); have me_v1 := World.new_ne w' _ (pw_cell_below hW v1); have me_v2 := World.new_ne w' _ (pw_cell_below hW v2); have me_v3 := World.new_ne w' _ (pw_cell_below hW v3); have me_d0 := World.new_ne w' _ (pw_cell_below hW d0); have me_d1 := World.new_ne w' _ (pw_cell_below hW d1); have me_d2 := World.new_ne w' _ (pw_cell_below hW d2); have me_d3 := World.new_ne w' _ (pw_cell_below hW d3); have me_d4 := World.new_ne w' _ (pw_cell_below hW d4); have me_d5 := World.new_ne w' _ (pw_cell_below hW d5); have HBB := Kp.mk hW; clear hb hW)
    | (refine (HAp.out W.drew hq0.out).mono ?_; rintro e w' ⟨A3, n3, c3, a, b, c, rfl, hb, hW⟩; have me_v0 := World.new_ne w' _ (pw_cell_below hW v0); have me_v1 := World.new_ne w' _ (pw_cell_below hW v1); have me_v2 := World.new_ne w' _ (pw_cell_below hW v2); have me_v3 := World.new_ne w' _ (pw_cell_below hW v3); have me_d0 := World.new_ne w' _ (pw_cell_below hW d0); have me_d1 := World.new_ne w' _ (pw_cell_below hW d1); have me_d2 := World.new_ne w' _ (pw_cell_below hW d2); have me_d3 := World.new_ne w' _ (pw_cell_below hW d3); have me_d4 := World.new_ne w' _ (pw_cell_below hW d4); have me_d5 := World.new_ne w' _ (pw_cell_below hW d5); have HBB := Kp.mk hW; clear hb hW)))
  all_goals
    rename_i hS
    have hd5 := hS.2.2.2.2.2.2.2.2.2
    clear hS
    go_wp2_with fail
    go_quiet ((go_at_call 12; exact Calls.quiet_of_same (num_any _ _)))
    go_wp2_with fail
    go_ret
    refine ⟨rfl, Fr.toBelow (S := fun _ => False) ?_ (fun k h => h.elim) (Nat.le_refl _)⟩
    repeat (first | exact (Fr.of_below HW.out).below HBB.out | with_reducible refine Fr.alloc ?_ _ | with_reducible refine Fr.drew ?_ | with_reducible refine Fr.drewN ?_ _ | with_reducible refine Fr.setCell ?_ (.inr HW.out.size) _)
end Go.Proofs.Ytgfkpddmjcgceaa.Kx
