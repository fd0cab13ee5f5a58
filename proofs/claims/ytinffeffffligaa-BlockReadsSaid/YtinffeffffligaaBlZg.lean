import Derived.Test.YtinffeffffligaaBlZe
set_option linter.unusedVariables false
set_option linter.unusedSimpArgs false
namespace Go.Proofs.Ytinffeffffligaa.Bas
open Go.RowKit Go.Maps

set_option maxHeartbeats 8000000 in
set_option maxRecDepth 100000 in
theorem reader_entry_t {B : Nat} {w : World} {g : Nat} {A : Option Addr} {n c : Nat} {xs : List Int} {a : Nat} {last : List Int} {ps : List Pr} {Al Ao : Option Addr} {nl cl no co : Nat} {v4 v5 : Value}
    (h : Rr B w g A n c xs a last ps (.slice Al nl cl) (.slice Ao no co) v4 v5) (hB : B ≤ w.heap.size) (hc : n ≤ c) (hb : Byt xs) (hn : n ≤ 1000000) (ha : a ≤ n) (hll : last.length ≤ 264) (hlb : Byt last) (hps : ps.length ≤ 10000) :
    Calls Try.prog 63 #[.pointer (some ⟨g, 0, none⟩), .bool true] w (EntP B w g A n c xs a last true ps (.slice Ao no co) v4 v5) := by
  have hl := h.rd.len
  have hnl : nl = last.length := (h.nu.rd (by omega)).1
  have hncl : nl ≤ cl := h.nu.cap
  have hno : no = ps.length := by
    obtain ⟨A1, c1, e1⟩ := h.ow.slice
    injection e1
  have c2 := cells_top h.head 2 (.slice Al nl cl) rfl
  have m1 : (nl : Int) % 18446744073709551616 = (nl : Int) := by omega
  have N1 := Kp.mk (number_gen h.head h.rd hc hb ha (limit := nl) (by omega))
  have HR := Kp.mk h
  have HBy := Kp.mk hb
  have HLb := Kp.mk hlb
  have HLl := Kp.mk hnl
  have HNO := Kp.mk hno
  clear h hb hlb hnl hno
  go_enter Try.func63, Try.ntmps63
  go_wp2_with fail
  refine N1.out.mono ?_
  rintro e w1 ⟨hf1, ok1, x1, t1, rfl, hh1, ht1, hx1, hy1, hz1⟩
  have HR1 := Kp.mk (HR.out.moved hf1 hh1)
  have F1 := Kp.mk hf1
  have Y1 := Kp.mk hy1
  have Z1 := Kp.mk hz1
  have N2 := Kp.mk (number_gen hh1 HR1.out.rd hc HBy.out ht1 (limit := 264) (by omega))
  clear hf1 hh1 hy1 hz1 N1 c2
  go_wp2_with fail
  refine N2.out.mono ?_
  rintro e w2 ⟨hf2, ok2, x2, t2, rfl, hh2, ht2, hx2, hy2, hz2⟩
  have HR2 := Kp.mk (HR1.out.moved hf2 hh2)
  have F2 := Kp.mk (F1.out.trans hf2 (fun k hk => .inl hk))
  have Y2 := Kp.mk hy2
  have Z2 := Kp.mk hz2
  have N3 := Kp.mk (number_gen hh2 HR2.out.rd hc HBy.out ht2 (limit := 4096) (by omega))
  clear hf2 hh2 hy2 hz2 N2 HR1 F1
  go_wp2_with fail
  refine N3.out.mono ?_
  rintro e w3 ⟨hf3, ok3, x3, t3, rfl, hh3, ht3, hx3, hy3, hz3⟩
  have HR3 := Kp.mk (HR2.out.moved hf3 hh3)
  have F3 := Kp.mk (F2.out.trans hf3 (fun k hk => .inl hk))
  have Y3 := Kp.mk hy3
  have Z3 := Kp.mk hz3
  have k0 := cells_top HR3.out.head 0 (.slice A n c) rfl
  have k1 := cells_top HR3.out.head 1 (.int .i64 (t3 : Nat)) rfl
  have FD := Kp.mk (F3.out.mono (S2 := fun k => k = g ∨ some k = (Value.slice Ao no co).ownBlock) (fun k _ hk => .inl hk))
  have Bk0 := blw_cell k0
  have Bk1 := blw_cell k1
  clear hf3 hh3 hy3 hz3 N3 HR2 F2 k0 k1
  cases ok1
  · have HNo : Kp (∀ en t, ¬ StepE xs last true (ps.map (fun p : Pr => p.2)) a en t) := ⟨fun en t hs => by
      obtain ⟨s1, s2, s3, T, _⟩ := hs.three
      have := Z1.out rfl _ _ T.v1
      have := T.l1
      have := HLl.out
      omega⟩
    go_wp2_with fail
    refine wp_region_below (by kernel_rfl) (by kernel_rfl) ?_
    repeat (first | go_big_quiet_step (fail) | quiet_step (fail))
    refine wpQuiet_nil ?_
    rintro _ ⟨pq, rfl⟩
    go_wp2_with fail
    go_ret
    exact ⟨FD.out.below pq.h, .inr ⟨HNo.out, rfl⟩⟩
  have V1 := Kp.mk (Y1.out rfl)
  cases ok2
  · have HNo : Kp (∀ en t, ¬ StepE xs last true (ps.map (fun p : Pr => p.2)) a en t) := ⟨fun en t hs => by
      obtain ⟨s1, s2, s3, T, _⟩ := hs.three
      obtain ⟨_, rfl⟩ := V1.out.one T.v1
      have := Z2.out rfl _ _ T.v2
      have := T.l2
      omega⟩
    go_wp2_with fail
    refine wp_region_below (by kernel_rfl) (by kernel_rfl) ?_
    repeat (first | go_big_quiet_step (fail) | quiet_step (fail))
    refine wpQuiet_nil ?_
    rintro _ ⟨pq, rfl⟩
    go_wp2_with fail
    go_ret
    exact ⟨FD.out.below pq.h, .inr ⟨HNo.out, rfl⟩⟩
  have V2 := Kp.mk (Y2.out rfl)
  cases ok3
  · have HNo : Kp (∀ en t, ¬ StepE xs last true (ps.map (fun p : Pr => p.2)) a en t) := ⟨fun en t hs => by
      obtain ⟨s1, s2, s3, T, _⟩ := hs.three
      obtain ⟨_, rfl⟩ := V1.out.one T.v1
      obtain ⟨_, rfl⟩ := V2.out.one T.v2
      have := Z3.out rfl _ _ T.v3
      have := T.l3
      omega⟩
    go_wp2_with fail
    refine wp_region_below (by kernel_rfl) (by kernel_rfl) ?_
    repeat (first | go_big_quiet_step (fail) | quiet_step (fail))
    refine wpQuiet_nil ?_
    rintro _ ⟨pq, rfl⟩
    go_wp2_with fail
    go_ret
    exact ⟨FD.out.below pq.h, .inr ⟨HNo.out, rfl⟩⟩
  have V3 := Kp.mk (Y3.out rfl)
  have hl3 := V1.out.lt
  clear Y1 Y2 Y3 Z1 Z2 Z3
  obtain ⟨d, hd⟩ : ∃ d, d = n - t3 := ⟨_, rfl⟩
  have hwd : IntKind.i64.wrap ((n : Int) - (t3 : Int)) = (d : Int) := (IntWalk.i64_in _ (by omega)).trans (by omega)
  obtain ⟨m, hm⟩ : ∃ m, m = x2 + x3 := ⟨_, rfl⟩
  have hwm : IntKind.i64.wrap ((x2 : Int) + (x3 : Int)) = (m : Int) := (IntWalk.i64_in _ (by omega)).trans (by omega)
  by_cases hroom : m ≤ d
  · obtain ⟨s, hs⟩ : ∃ s, s = t3 + x2 := ⟨_, rfl⟩
    obtain ⟨t, ht⟩ : ∃ t, t = s + x3 := ⟨_, rfl⟩
    have hsn : s ≤ n := by omega
    have htn : t ≤ n := by omega
    have hts : t3 ≤ s := by omega
    have hst : s ≤ t := by omega
    have hmd : ¬ d < m := by omega
    have THR : Kp (Three xs last a x1 x2 x3 t1 t2 t3) := ⟨⟨V1.out, V2.out, V3.out, by have := HLl.out; omega, hx2, hx3, by omega⟩⟩
    have zz3 : IntKind.i64.wrap ((t3 : Int) + (x2 : Int)) = (s : Int) := (IntWalk.i64_in _ (by omega)).trans (by omega)
    have zz4 : IntKind.i64.wrap ((s : Int) + (x3 : Int)) = (t : Int) := (IntWalk.i64_in _ (by omega)).trans (by omega)
    have zz5 : IntKind.i64.wrap ((t3 : Int) + (m : Int)) = (t : Int) := (IntWalk.i64_in _ (by omega)).trans (by omega)
    have pp1 : (t3 : Int) ≤ (s : Int) := by omega
    have pp2 : (s : Int) ≤ (c : Int) := by omega
    have pp3 : (s : Int) ≤ (t : Int) := by omega
    have pp4 : (t : Int) ≤ (c : Int) := by omega
    have pp5 : (x1 : Int) ≤ (cl : Int) := by omega
    have hx1c : x1 ≤ cl := by omega
    have hsc : s ≤ c := by omega
    have htc : t ≤ c := by omega
    have hsm : s - t3 = x2 := by omega
    have htm : t - s = x3 := by omega
    have Hs := Kp.mk hs
    have Ht := Kp.mk ht
    have Hm := Kp.mk hm
    have Hsm := Kp.mk hsm
    have Htm := Kp.mk htm
    clear hd hs ht hm hsm htm
    go_wp2_with fail
    refine wp_region_below (by kernel_rfl) (by kernel_rfl) ?_
    repeat (first | go_big_quiet_step (fail) | quiet_step (fail))
    refine wpQuiet_nil ?_
    rintro _ ⟨pq, rfl⟩
    obtain ⟨wq, hwq⟩ : ∃ W, W = pq.v := ⟨_, rfl⟩
    have hpq := pq.h
    rw [← hwq] at hpq ⊢
    have hdr : Below wq.heap.size wq wq.drew := (Below.refl _ _).drew
    have HRq := Kp.mk ((HR3.out.below hpq).below hdr)
    have FDq := Kp.mk ((FD.out.below hpq).below hdr)
    have hbq : B ≤ wq.drew.heap.size := Nat.le_trans hB FDq.out.size
    have HBq := Kp.mk hbq
    have HOL := Kp.mk (own_blk_lt HRq.out.ow.own)
    have HQs : Kp (w.heap.size ≤ wq.drew.heap.size) := ⟨FDq.out.size⟩
    have q0 := cells_top HRq.out.head 0 (.slice A n c) rfl
    have q1 := cells_top HRq.out.head 1 (.int .i64 (t3 : Nat)) rfl
    have q2 := cells_top HRq.out.head 2 (.slice Al nl cl) rfl
    obtain ⟨Am, hif, hrm⟩ := rd_mid HRq.out.rd hc hts hsn
    have hlr := (HRq.out.nu.rd (by omega)).2.1
    have HRm := Kp.mk hrm
    have HRl := Kp.mk (hlr.take (m := x1) hx1)
    obtain ⟨ky, hky⟩ : ∃ ky, ky = last.take x1 ++ (xs.drop t3).take (s - t3) := ⟨_, rfl⟩
    have hkyb : Byt ky := by rw [hky]; exact byt_append (byt_take HLb.out _) (byt_take (byt_drop HBy.out _) _)
    have hkyl : ky.length ≤ 1000 := by rw [hky, List.length_append, List.length_take, List.length_take, List.length_drop]; have := Hsm.out; omega
    have HKy := Kp.mk hky
    have HKb := Kp.mk hkyb
    have HKl := Kp.mk hkyl
    have HL2 : Kp (((last.take x1 : List Int).length + (s - t3)) * 1 ≤ 140737488355328) := ⟨by rw [List.length_take]; have := Hsm.out; omega⟩
    clear hwq hpq hdr hrm hlr hky hkyb hkyl Bk0 Bk1 hbq
    go_wp2_with fail
    go_region_held3 (fun W => W.cell? ⟨g, 0, none⟩ = some (.slice A n c) ∧ W.cell? ⟨g, 1, none⟩ = some (.int .i64 (t3 : Nat)) ∧ W.cell? ⟨g, 2, none⟩ = some (.slice Al nl cl)) (first | go_keep | exact ⟨q0, q1, q2⟩ | exact ⟨r0, r1, r2⟩ | exact ⟨s0, s1, s2⟩)
      (first
        | ((go_at_call 43; refine (clone_nu HRl.out).mono ?_; rintro e w6 ⟨A6, c6, rfl, h1, h2⟩; have r0 := cell_kept h2 q0; have r1 := cell_kept h2 q1; have r2 := cell_kept h2 q2; have HF6 := Kp.mk h2; have HN6 := Kp.mk h1; have HRm6 := Kp.mk (HRm.out.below h2); clear h1 h2))
        | ((refine step_append_nu (w := w6) rfl (.tmp 69) (.tmp 84) 25 5 .u8 1 wq.drew.heap.size rfl Try.underlying25 Try.infoU8 Nat.one_pos (.slice A6 x1 c6) (s - t3) (c - t3) (last.take x1) ((xs.drop t3).take (s - t3)) Am rfl rfl HN6.out HRm6.out HL2.out HF6.out.size ?_; intro A7 n7 c7 w7 h1 h2 h3; have s0 := cell_kept (HF6.out.trans h3) q0; have s1 := cell_kept (HF6.out.trans h3) q1; have s2 := cell_kept (HF6.out.trans h3) q2; have HF7 := Kp.mk (HF6.out.trans h3); have HN7 := Kp.mk h1; clear h1 h2 h3)))
    have HNk : Kp (Nu .u8 5 wq.drew.heap.size w7 (.slice A7 n7 c7) ky) := ⟨by have := HN7.out; rw [← HKy.out] at this; exact this⟩
    have HR7 := Kp.mk (HRq.out.below HF7.out)
    have FD7 := Kp.mk (FDq.out.below HF7.out)
    have HB7 : Kp (B ≤ w7.heap.size) := ⟨Nat.le_trans HBq.out HF7.out.size⟩
    clear HN6 HN7 HRm6 HRm HRl HRq FDq q0 q1 q2 r0 r1 r2 s0 s1 s2
    have HRk := Kp.mk (key_read (HNk.out.rd (by have := HKl.out; omega)).2.1 HNk.out.cap HKb.out)
    go_wp2_with fail
    refine HRk.out.mono ?_
    rintro e w9 ⟨hb9, (⟨Ak, nk, ck, k, rfl, hkb, hrk, hk0, hbk, hnu⟩ | ⟨r, hr, rfl, hno⟩)⟩
    · have HKB := Kp.mk hkb
      have HRK := Kp.mk hrk
      have HK0 := Kp.mk hk0
      have HBK := Kp.mk hbk
      have HNU := Kp.mk hnu
      clear hkb hrk hk0 hbk hnu HRk
      have hb10 := alloc_below w9 (.cells #[.slice Ak nk ck, .int .u64 k.seq, .int .i64 k.kind] 46)
      have g9 := heap_alloc_new w9 (.cells #[.slice Ak nk ck, .int .u64 k.seq, .int .i64 k.kind] 46)
      obtain ⟨W9, hW9⟩ : ∃ W, W = w9.alloc (.cells #[.slice Ak nk ck, .int .u64 k.seq, .int .i64 k.kind] 46) := ⟨_, rfl⟩
      rw [← hW9] at hb10 g9
      have hdr : Below W9.heap.size W9 W9.drew := (Below.refl _ _).drew
      have hall := hb9.trans ((hb10.trans (hdr.mono hb10.size)).mono hb9.size)
      have HALL := Kp.mk hall
      have HRe := Kp.mk (HR7.out.below hall)
      have FDe := Kp.mk (FD7.out.below hall)
      have HBe : Kp (B ≤ W9.drew.heap.size) := ⟨Nat.le_trans HB7.out hall.size⟩
      have HNe := Kp.mk (HNk.out.below hall)
      have gd := (hdr.block _ (lt_of_block g9)).trans g9
      obtain ⟨gz, hgz⟩ : ∃ gz, gz = w9.heap.size := ⟨_, rfl⟩
      rw [← hgz] at gd
      have Hgz : Kp (w7.heap.size ≤ gz) := ⟨by rw [hgz]; exact hb9.size⟩
      have GD := Kp.mk gd
      have y0 := cells_top gd 0 (.slice Ak nk ck) rfl
      have y1 := cells_top gd 1 (.int .u64 k.seq) rfl
      have y2 := cells_top gd 2 (.int .i64 k.kind) rfl
      have j0 := cells_top HRe.out.head 0 (.slice A n c) rfl
      have j1 := cells_top HRe.out.head 1 (.int .i64 (t3 : Nat)) rfl
      obtain ⟨Av, hif2, hrv⟩ := rd_mid HRe.out.rd hc hst htn
      have HRv := Kp.mk hrv
      have haZ : Below W9.drew.heap.size W9.drew (W9.alloc (.cells #[.slice none 0 0, .int .u64 0, .int .i64 0, .slice none 0 0] 48)).drew := alloc_below W9.drew (.cells #[.slice none 0 0, .int .u64 0, .int .i64 0, .slice none 0 0] 48)
      have j0z := cell_kept haZ j0
      have j1z := cell_kept haZ j1
      have y0z := cell_kept haZ y0
      have y1z := cell_kept haZ y1
      have y2z := cell_kept haZ y2
      have HaZ := Kp.mk haZ
      have HRvZ := Kp.mk (hrv.below haZ)
      have ne_y0 : W9.heap.size ≠ gz := World.new_ne W9.drew _ y0
      have ne_j0 : W9.heap.size ≠ g := World.new_ne W9.drew _ j0
      have HWN := Kp.mk hW9
      have HGN := Kp.mk hgz
      clear hb10 g9 hW9 hdr hall gd hgz hrv haZ hb9
      go_wp2_with fail
      rewrite [← HWN.out, ← HGN.out]
      go_region_held3 (fun W => W.cell? ⟨g, 0, none⟩ = some (.slice A n c) ∧ W.cell? ⟨g, 1, none⟩ = some (.int .i64 (t3 : Nat)) ∧ W.cell? ⟨gz, 0, none⟩ = some (.slice Ak nk ck) ∧ W.cell? ⟨gz, 1, none⟩ = some (.int .u64 k.seq) ∧ W.cell? ⟨gz, 2, none⟩ = some (.int .i64 k.kind)) (first | go_keep | exact ⟨j0, j1, y0, y1, y2⟩ | exact ⟨j0a, j1a, y0a, y1a, y2a⟩ | exact ⟨j0b, j1b, y0b, y1b, y2b⟩ | exact ⟨j0z, j1z, y0z, y1z, y2z⟩)
        ((go_at_call 43; first
          | (refine (clone_nu (w := (W9.alloc (.cells #[.slice none 0 0, .int .u64 0, .int .i64 0, .slice none 0 0] 48)).drew) HRvZ.out).mono ?_; rintro e w10 ⟨Aw, cw, rfl, h1, h2⟩; have HCL := Kp.mk h1; have HBL := Kp.mk (HaZ.out.trans (h2.mono HaZ.out.size)); have j0b := cell_kept HBL.out j0; have j1b := cell_kept HBL.out j1; have y0b := cell_kept HBL.out y0; have y1b := cell_kept HBL.out y1; have y2b := cell_kept HBL.out y2; have GZ : w10.heap[W9.heap.size]? = some (.cells #[.slice none 0 0, .int .u64 0, .int .i64 0, .slice none 0 0] 48) := (h2.block _ (by simp)).trans (heap_alloc_new _ _); have n0 := cells_top GZ 0 (.slice none 0 0) rfl; have n1 := cells_top GZ 1 (.int .u64 0) rfl; have n2 := cells_top GZ 2 (.int .i64 0) rfl; have n3 := cells_top GZ 3 (.slice none 0 0) rfl; have m0 := free_top GZ 0; have m1 := free_top GZ 1; have m2 := free_top GZ 2; have m3 := free_top GZ 3; have HGZ := Kp.mk GZ; clear GZ h1 h2)
          | (refine (clone_nu (w := W9.drew) HRv.out).mono ?_; rintro e w10 ⟨Aw, cw, rfl, h1, h2⟩; have HCL := Kp.mk h1; have HBL := Kp.mk h2; have j0a := cell_kept h2 j0; have j1a := cell_kept h2 j1; have y0a := cell_kept h2 y0; have y1a := cell_kept h2 y1; have y2a := cell_kept h2 y2; have me_y0 := World.new_ne w10 _ y0a; have me_j0 := World.new_ne w10 _ j0a; clear h1 h2)))
      all_goals
        first
          | (refine as_world (fun W => Below W9.drew.heap.size W9.drew W ∧ W.heap[w10.heap.size]? = some (.cells #[.slice Ak nk ck, .int .u64 k.seq, .int .i64 k.kind, .slice Aw (t - s) cw] 48 (0, 0)) ∧ Nu .u8 5 W9.drew.heap.size W (.slice Aw (t - s) cw) ((xs.drop s).take (t - s))) ⟨HBL.out.trans ((alloc_below _ _).mono HBL.out.size), heap_alloc_new _ _, HCL.out.below (alloc_below _ _)⟩ ?_
             rintro V ⟨hV, hE, hN⟩
             obtain ⟨gn, hgn⟩ : ∃ q, q = w10.heap.size := ⟨_, rfl⟩
             have hgn8 : w7.heap.size ≤ gn := by rw [hgn]; exact Nat.le_trans HALL.out.size HBL.out.size
             rw [← hgn] at hE ⊢
             clear hgn)
          | (have hp4 := put4 HGZ.out (.slice Ak nk ck) (.int .u64 k.seq) (.int .i64 k.kind) (.slice Aw (t - s) cw)
             have hsz : W9.heap.size < (W9.alloc (.cells #[.slice none 0 0, .int .u64 0, .int .i64 0, .slice none 0 0] 48)).drew.heap.size := by simp
             have hf1 := ((Fr.of_below (S := fun k => k = W9.heap.size) HBL.out).trans hp4.2 (fun k hk => .inl hk)).toBelow (fun k hk => Nat.le_of_eq hk.symm) (Nat.le_refl _)
             have hf2 := (HCL.out.kept hp4.2 (fun q hq e => Nat.lt_irrefl q (Nat.lt_of_lt_of_le (by rw [e]; exact hsz) (HCL.out.base q hq)))).lower (Nat.le_of_lt hsz)
             refine as_world (fun W => Below W9.drew.heap.size W9.drew W ∧ W.heap[W9.heap.size]? = some (.cells #[.slice Ak nk ck, .int .u64 k.seq, .int .i64 k.kind, .slice Aw (t - s) cw] 48 (0, 0)) ∧ Nu .u8 5 W9.drew.heap.size W (.slice Aw (t - s) cw) ((xs.drop s).take (t - s))) ⟨hf1, hp4.1, hf2⟩ ?_
             clear hp4 hf1 hf2 hsz
             rintro V ⟨hV, hE, hN⟩
             obtain ⟨gn, hgn⟩ : ∃ q, q = W9.heap.size := ⟨_, rfl⟩
             have hgn8 : w7.heap.size ≤ gn := by rw [hgn]; exact HALL.out.size
             rw [← hgn] at hE ⊢
             clear hgn)
        have hV8 : w7.heap.size ≤ V.heap.size := Nat.le_trans HALL.out.size hV.size
        have RV := Kp.mk (HRe.out.below hV)
        have FDv := Kp.mk (FDe.out.below hV)
        have EH := Kp.mk hE
        have HKv := Kp.mk (HNe.out.below hV)
        have HVs := Kp.mk hV8
        have HGN8 : Kp (w7.heap.size ≤ gn) := ⟨hgn8⟩
        obtain ⟨mv, hmv⟩ : ∃ mv, mv = (xs.drop s).take (t - s) := ⟨_, rfl⟩
        have hmvb : Byt mv := by rw [hmv]; exact byt_take (byt_drop HBy.out _) _
        have hmvl : mv.length = t - s := by rw [hmv, List.length_take, List.length_drop]; omega
        have EV : Kp (EnC V #[.slice Ak nk ck, .int .u64 k.seq, .int .i64 k.kind, .slice Aw (t - s) cw] ⟨k, mv⟩) := ⟨⟨Ak, nk, ck, Aw, t - s, cw, rfl, (((HNU.out.below (alloc_below _ _)).below ((Below.refl _ _).drew)).below (by rw [← HWN.out]; exact hV)).rd (by have := HRK.out.len; omega) |>.2.1, HBK.out, by rw [hmv]; exact (hN.rd (by rw [← hmv, hmvl]; omega)).2.1, hmvb⟩⟩
        have HFAR : Kp (∀ A n c, Value.slice (some A) n c ∈ (#[.slice Ak nk ck, .int .u64 k.seq, .int .i64 k.kind, .slice Aw (t - s) cw] : Array Value).toList → w7.heap.size ≤ A.block) := ⟨fun A n c hm => by
          simp at hm
          rcases hm with ⟨h1, _, _⟩ | ⟨h1, _, _⟩
          · exact HNU.out.base A.block (by rw [← h1]; rfl)
          · exact Nat.le_trans HALL.out.size (hN.base A.block (by rw [← h1]; rfl))⟩
        have HEN : Kp (∀ en t, StepE xs last true (ps.map (fun p : Pr => p.2)) a en t → en = ⟨k, mv⟩ ∧ x1 = wantB true last ky) := ⟨fun en t' hs => by
          obtain ⟨h1, h2, h3⟩ := THR.out.only hs
          have e : kb en.k = ky := by rw [h1, HKy.out, Hsm.out]
          have ek := key_one hs.right.key hs.seq HRK.out HK0.out (e.trans HKB.out.symm)
          rw [e] at h3
          refine ⟨?_, h3⟩
          obtain ⟨k', v'⟩ := en
          simp only at ek h2
          rw [ek, h2, hmv, Htm.out, Hs.out]⟩
        have HST : Kp (x1 = wantB true last ky → RightE ⟨k, mv⟩ → (0 < (ps.map (fun p : Pr => p.2)).length → keyCmp (lastK (ps.map (fun p : Pr => p.2))) k < 0) → ps.length + 1 ≤ 10000 → StepE xs last true (ps.map (fun p : Pr => p.2)) a ⟨k, mv⟩ t) := ⟨fun h1 h2 h3 h4 => by
          have := THR.out.step (e := ⟨k, mv⟩) (rs := true) (es := ps.map (fun p : Pr => p.2)) (by show kb k = _; rw [HKB.out, HKy.out, Hsm.out]) (by show mv = _; rw [hmv, Htm.out, Hs.out]) (by show x1 = wantB true last (kb k); rw [HKB.out]; exact h1) h2 HK0.out h3 (by rw [List.length_map]; exact h4)
          rw [show t3 + (x2 + x3) = t by rw [Ht.out, Hs.out, Nat.add_assoc]] at this
          exact this⟩
        have e0 := blw_cell (cells_top hE 0 (.slice Ak nk ck) rfl)
        have e1 := blw_cell (cells_top hE 1 (.int .u64 k.seq) rfl)
        have e2 := blw_cell (cells_top hE 2 (.int .i64 k.kind) rfl)
        have e3 := blw_cell (cells_top hE 3 (.slice Aw (t - s) cw) rfl)
        have u0 := blw_cell (cells_top RV.out.head 3 (.slice Ao no co) rfl)
        have z0 := blw_cell (cell_kept hV y0)
        have z1 := blw_cell (cell_kept hV y1)
        have z2 := blw_cell (cell_kept hV y2)
        have HKYV := Kp.mk (fun (W : World) (hb : Below V.heap.size V W) => (⟨_, _, _, rfl, (((HNU.out.below (alloc_below _ _)).below ((Below.refl _ _).drew)).below (by rw [← HWN.out]; exact hV)).rd (by have := HRK.out.len; omega) |>.2.1 |>.below hb, HBK.out⟩ : KyV W (.agg #[.slice Ak nk ck, .int .u64 k.seq, .int .i64 k.kind]) k))
        have HMV := Kp.mk hmv
        clear hV hE hN hmv hmvb hV8 hgn8 j0 j1 y0 y1 y2 HNe HRe FDe
        try clear j0a j1a y0a y1a y2a me_y0 me_j0
        try clear j0b j1b y0b y1b y2b n0 n1 n2 n3 m0 m1 m2 m3
        try clear j0z j1z y0z y1z y2z ne_y0 ne_j0
        by_cases hxw : x1 = 0
        · have HXW : Kp (x1 = wantB true last ky) := ⟨hxw.trans (rfl : 0 = wantB true last ky)⟩
          have b1 : ((x1 : Int) == (0 : Int)) = true := by rw [beq_iff_eq]; omega
          have b2 : ((x1 : Int) != (0 : Int)) = false := by rw [bne_eq_false_iff_eq]; omega
          clear hxw
          by_cases hre : RightE ⟨k, mv⟩
          · have HRE := Kp.mk hre
            have HRt := Kp.mk (fun (W : World) (hb : Below V.heap.size V W) => right_entry (EV.out.below hb))
            rw [decide_eq_true hre] at HRt
            clear hre
            by_cases hno0 : no = 0
            · have HRI : Kp (0 < (ps.map (fun p : Pr => p.2)).length → keyCmp (lastK (ps.map (fun p : Pr => p.2))) k < 0) := ⟨fun h => by rw [List.length_map] at h; have := HNO.out; omega⟩
              have hno1 : ¬ 0 < no := by omega
              clear hno0
              go_wp2_with fail
              refine wp_region_below (by kernel_rfl) (by kernel_rfl) ?_
              repeat (first | go_big_quiet_step ((go_at_call 41; exact calls_blw (HRt.out _ (Blw.h _)))) | quiet_step ((go_at_call 41; exact calls_blw (HRt.out _ (Blw.h _)))))
              refine wpQuiet_nil ?_
              rintro _ ⟨pz, rfl⟩
              obtain ⟨U, hU⟩ : ∃ W, W = pz.v := ⟨_, rfl⟩
              have hpz := pz.h
              rw [← hU] at hpz ⊢
              have RU := Kp.mk (RV.out.below hpz)
              have EU := Kp.mk (EV.out.below hpz)
              have EHU : U.heap[gn]? = some (.cells #[.slice Ak nk ck, .int .u64 k.seq, .int .i64 k.kind, .slice Aw (t - s) cw] 48 (0, 0)) := (hpz.block gn (lt_of_block EH.out)).trans EH.out
              have HKU := Kp.mk (HKv.out.below hpz)
              have FDU := Kp.mk (FDv.out.below hpz)
              have HUs : Kp (w7.heap.size ≤ U.heap.size) := ⟨Nat.le_trans HVs.out hpz.size⟩
              have c1 := cells_top RU.out.head 1 (.int .i64 (t3 : Nat)) rfl
              have f1 := free_top RU.out.head 1
              have EHU' := Kp.mk EHU
              clear hU hpz EHU
              go_wp2_with fail
              have hset := heap_setCell_same U g 1 _ _ (.int .i64 (t : Nat)) RU.out.head
              obtain ⟨V1, hV1⟩ : ∃ W, W = U.setCell ⟨g, 1, none⟩ (.int .i64 (t : Nat)) := ⟨_, rfl⟩
              have hf1 : Fr U V1 (fun k => k = g) := by rw [hV1]; exact (Fr.refl U (fun k => k = g)).setCell (a := ⟨g, 1, none⟩) (.inl rfl) _
              rw [← hV1] at hset ⊢
              have RV1 := Kp.mk (RU.out.moved (t := t) hf1 hset)
              have hgB := RU.out.gB
              have FDV1 := Kp.mk (FDU.out.trans hf1 (fun k hk => .inl (.inl hk)))
              have HK1 := Kp.mk (HKU.out.kept hf1 (fun q hq e => by have := HKU.out.base q hq; have := HBq.out; omega))
              have HE1 := Kp.mk (EU.out.kept hf1 (fun A n c hm hn e => by have := HFAR.out A n c hm; have := HB7.out; omega))
              have hEH1 : V1.heap[gn]? = some (.cells #[.slice Ak nk ck, .int .u64 k.seq, .int .i64 k.kind, .slice Aw (t - s) cw] 48 (0, 0)) := (hf1.block gn (lt_of_block EHU'.out) (fun e => by have := HGN8.out; have := HB7.out; omega)).trans EHU'.out
              have n0 := cells_top hEH1 0 (.slice Ak nk ck) rfl
              have n1 := cells_top hEH1 1 (.int .u64 k.seq) rfl
              have n2 := cells_top hEH1 2 (.int .i64 k.kind) rfl
              have n3 := cells_top hEH1 3 (.slice Aw (t - s) cw) rfl
              have g3 := cells_top RV1.out.head 3 (.slice Ao no co) rfl
              have g3' := cell_kept (alloc_below V1 (.cells #[.slice Ak nk ck, .int .u64 k.seq, .int .i64 k.kind, .slice Aw (t - s) cw] 48)) g3
              have hb2 : Below V1.heap.size V1 (V1.alloc (.cells #[.slice Ak nk ck, .int .u64 k.seq, .int .i64 k.kind, .slice Aw (t - s) cw] 48)).drew := (alloc_below V1 (.cells #[.slice Ak nk ck, .int .u64 k.seq, .int .i64 k.kind, .slice Aw (t - s) cw] 48)).drew
              have hz2 : (V1.alloc (.cells #[.slice Ak nk ck, .int .u64 k.seq, .int .i64 k.kind, .slice Aw (t - s) cw] 48)).drew.heap[V1.heap.size]? = some (.cells #[.slice Ak nk ck, .int .u64 k.seq, .int .i64 k.kind, .slice Aw (t - s) cw] 48) := heap_alloc_new V1 _
              have HC2 : Kp (∀ (i : Nat) (u : Value), (#[.slice Ak nk ck, .int .u64 k.seq, .int .i64 k.kind, .slice Aw (t - s) cw] : Array Value)[i]? = some u → (V1.alloc (.cells #[.slice Ak nk ck, .int .u64 k.seq, .int .i64 k.kind, .slice Aw (t - s) cw] 48)).drew.cell? ((⟨V1.heap.size, 0, none⟩ : Addr).add i) = some u) := ⟨fun i u hu => by
                rw [Addr.add_lit, Nat.zero_add]
                exact cells_top hz2 i u hu⟩
              obtain ⟨W2, hW2⟩ : ∃ W, W = (V1.alloc (.cells #[.slice Ak nk ck, .int .u64 k.seq, .int .i64 k.kind, .slice Aw (t - s) cw] 48)).drew := ⟨_, rfl⟩
              rw [← hW2] at hb2 HC2
              have HW2 := Kp.mk hW2
              have RV2 := Kp.mk (RV1.out.below hb2)
              have FDV2 := Kp.mk (FDV1.out.below hb2)
              have HK2 := Kp.mk (HK1.out.below hb2)
              have HE2 := Kp.mk (HE1.out.below hb2)
              have HB2 : Kp (B ≤ W2.heap.size) := ⟨by have := HB7.out; have := HUs.out; have := hf1.size; have := hb2.size; omega⟩
              have HS2 : Kp (w.heap.size ≤ W2.heap.size) := ⟨FDV2.out.size⟩
              have HAP : Kp (∀ A n c, Value.slice (some A) n c ∈ (#[.slice Ak nk ck, .int .u64 k.seq, .int .i64 k.kind, .slice Aw (t - s) cw] : Array Value).toList → 0 < n → some A.block ≠ (Value.slice Ao no co).ownBlock) := ⟨fun A n c hm _ e => by have := HFAR.out A n c hm; have := own_blk_lt HR7.out.ow.own A.block e.symm; omega⟩
              have HLP : Kp (ps.length + 1 ≤ 2000000) := ⟨by omega⟩
              have hgn3 : some g ≠ (Value.slice Ao no co).ownBlock := fun e => by have := RV2.out.ow.base g e.symm; omega
              have HGN3 := Kp.mk hgn3
              clear hf1 hset hV1 hEH1 hb2 hz2 hW2 hgn3 c1 f1
              go_region_law ((rw [← HW2.out]; refine step_append_ow2 (w := W2) rfl (.tmp 174) (.tmp 176) rfl (.slice Ao no co) ps _ ⟨k, mv⟩ ⟨V1.heap.size, 0, none⟩ 1 rfl rfl RV2.out.ow HE2.out HAP.out HC2.out HLP.out HB2.out ?_; intro A9 n9 c9 V3 h1 h2 h3; have HO3 := Kp.mk h1; have HF3 := Kp.mk h2; have HN3 := Kp.mk h3; have hh3 := (h2.block g (lt_of_block RV2.out.head) HGN3.out).trans RV2.out.head; have f3 := free_top hh3 3; have f2 := free_top hh3 2; have d3 := cells_top hh3 3 (.slice Ao no co) rfl; have d2 := cells_top hh3 2 (.slice Al nl cl) rfl; have HH3 := Kp.mk hh3; clear h1 h2 h3 hh3))
              all_goals
                have hn9 : n9 = ps.length + 1 := by
                  obtain ⟨A1, c1, e1⟩ := HO3.out.slice
                  rw [List.length_append, List.length_singleton] at e1
                  injection e1
                have HK3 : Kp (Nu .u8 5 B V3 (.slice A7 n7 c7) (kb (⟨k, mv⟩ : En).k)) := ⟨by
                  have h1 := (HK2.out.kept HF3.out (fun q hq e => by have := HK2.out.base q hq; have := HOL.out q e.symm; omega)).lower HBq.out
                  show Nu _ _ _ _ _ (kb k)
                  rw [HKB.out]
                  exact h1⟩
                have HFB : Kp (∀ A n c, Value.slice (some A) n c ∈ (#[.slice Ak nk ck, .int .u64 k.seq, .int .i64 k.kind, .slice Aw (t - s) cw] : Array Value).toList → 0 < n → B ≤ A.block) := ⟨fun A n c hm _ => Nat.le_trans HB7.out (HFAR.out A n c hm)⟩
                have FR3 := Kp.mk (FDV2.out.trans HF3.out (fun k hk => .inl (.inr hk)))
                clear g3 g3' n0 n1 n2 n3
                by_cases hsh : ps.length + 1 ≤ 10000
                · have HSt := Kp.mk (HST.out HXW.out HRE.out HRI.out hsh)
                  have hsh' : n9 ≤ 10000 := by omega
                  clear hsh hn9
                  go_wp2_with fail
                  go_ret
                  refine ⟨?_, .inl ⟨⟨k, mv⟩, t, _, _, _, HSt.out, ret_bool (decide_eq_true (by omega)), RV2.out.push HF3.out HO3.out HK3.out HFB.out ?_ ?_, ?_, fun q hq => Nat.le_trans HQs.out (HK2.out.base q hq), HN3.out.imp id (fun ⟨q, h1, h2⟩ => ⟨q, h1, Nat.le_trans HS2.out h2⟩), fun A n c hm _ => Nat.le_trans FD7.out.size (HFAR.out A n c hm)⟩⟩
                  · first
                      | exact (FR3.out.setCell (a := ⟨g, 3, none⟩) (.inl (.inl rfl)) _).setCell (a := ⟨g, 2, none⟩) (.inl (.inl rfl)) _
                      | exact (FR3.out.setCell (a := ⟨g, 2, none⟩) (.inl (.inl rfl)) _).setCell (a := ⟨g, 3, none⟩) (.inl (.inl rfl)) _
                  · first
                      | exact ((Fr.refl V3 (fun k => k = g)).setCell (a := ⟨g, 3, none⟩) (.inl rfl) _).setCell (a := ⟨g, 2, none⟩) (.inl rfl) _
                      | exact ((Fr.refl V3 (fun k => k = g)).setCell (a := ⟨g, 2, none⟩) (.inl rfl) _).setCell (a := ⟨g, 3, none⟩) (.inl rfl) _
                  · first
                      | exact heap_setCell_same _ _ 2 _ _ _ (heap_setCell_same _ _ 3 _ _ _ HH3.out)
                      | exact heap_setCell_same _ _ 3 _ _ _ (heap_setCell_same _ _ 2 _ _ _ HH3.out)
                  · show Byt (kb k)
                    rw [HKB.out]
                    exact HKb.out
                · have HNo : Kp (∀ en t, ¬ StepE xs last true (ps.map (fun p : Pr => p.2)) a en t) := ⟨fun en t hs => hsh (by have := hs.short; rw [List.length_map] at this; exact this)⟩
                  have hsh' : ¬ n9 ≤ 10000 := by omega
                  have hsh2 : 10000 < n9 := by omega
                  clear hsh hn9
                  go_wp2_with fail
                  go_ret
                  refine ⟨?_, .inr ⟨HNo.out, ret_bool (decide_eq_false (by omega))⟩⟩
                  first
                    | exact (FR3.out.setCell (a := ⟨g, 3, none⟩) (.inl (.inl rfl)) _).setCell (a := ⟨g, 2, none⟩) (.inl (.inl rfl)) _
                    | exact (FR3.out.setCell (a := ⟨g, 2, none⟩) (.inl (.inl rfl)) _).setCell (a := ⟨g, 3, none⟩) (.inl (.inl rfl)) _

            · have hnp : 0 < no := by omega
              obtain ⟨q, hq⟩ : ∃ q, q = no - 1 := ⟨_, rfl⟩
              have hqn : q < no := by omega
              have hqn' : ¬ no ≤ q := by omega
              have hw1 : IntKind.i64.wrap ((no : Int) - 1) = (q : Int) := (IntWalk.i64_in _ (by have := HNO.out; omega)).trans (by omega)
              have hes := (RV.out.ow.es (by omega)).2
              obtain ⟨b, off, hAo, hcq⟩ := hes.cell hnp
              subst hAo
              obtain ⟨vq, hvq, hcv⟩ := hcq q hqn
              obtain ⟨A0, l0, d0, A0', l0', d0', rfl, a1, a2, a3, a4⟩ := hvq
              obtain ⟨kq, hkq⟩ : ∃ kq, kq = ((ps.map (fun p : Pr => p.2)).getD q enD).k := ⟨_, rfl⟩
              rw [← hkq] at hcv a1 a2
              have x0 := hcv 0 _ rfl
              rw [Nat.add_zero] at x0
              have x1' := hcv 1 _ rfl
              have x2' := hcv 2 _ rfl
              have x0b := blw_cell x0
              have x1b := blw_cell x1'
              have x2b := blw_cell x2'
              obtain ⟨dd, hdd⟩ : ∃ dd, dd = keyCmp kq k := ⟨_, rfl⟩
              have hcmp := fun (W : World) (hb : Below V.heap.size V W) => key_compare (⟨_, _, _, rfl, a1.below hb, a2⟩ : KyV W (.agg #[.slice A0 l0 d0, .int .u64 kq.seq, .int .i64 kq.kind]) kq) (HKYV.out W hb)
              rw [← hdd] at hcmp
              have HCmp := Kp.mk hcmp
              have HLK : Kp (keyCmp (lastK (ps.map (fun p : Pr => p.2))) k = dd) := ⟨by unfold lastK; rw [hdd, hkq, List.length_map, hq, HNO.out]⟩
              clear hcmp hdd hkq a1 a2 a3 a4 x0 x1' x2' hcv hcq hes hq
              by_cases hneg : dd < 0
              · have HRI : Kp (0 < (ps.map (fun p : Pr => p.2)).length → keyCmp (lastK (ps.map (fun p : Pr => p.2))) k < 0) := ⟨fun h => by rw [HLK.out]; exact hneg⟩
                have hneg' : ¬ 0 ≤ dd := by omega
                go_wp2_with fail
                refine wp_region_below (by kernel_rfl) (by kernel_rfl) ?_
                repeat (first | go_big_quiet_step ((first | (go_at_call 41; exact calls_blw (HRt.out _ (Blw.h _))) | (go_at_call 39; exact calls_blw (HCmp.out _ (Blw.h _))))) | quiet_step ((first | (go_at_call 41; exact calls_blw (HRt.out _ (Blw.h _))) | (go_at_call 39; exact calls_blw (HCmp.out _ (Blw.h _))))))
                refine wpQuiet_nil ?_
                rintro _ ⟨pz, rfl⟩
                obtain ⟨U, hU⟩ : ∃ W, W = pz.v := ⟨_, rfl⟩
                have hpz := pz.h
                rw [← hU] at hpz ⊢
                have RU := Kp.mk (RV.out.below hpz)
                have EU := Kp.mk (EV.out.below hpz)
                have EHU : U.heap[gn]? = some (.cells #[.slice Ak nk ck, .int .u64 k.seq, .int .i64 k.kind, .slice Aw (t - s) cw] 48 (0, 0)) := (hpz.block gn (lt_of_block EH.out)).trans EH.out
                have HKU := Kp.mk (HKv.out.below hpz)
                have FDU := Kp.mk (FDv.out.below hpz)
                have HUs : Kp (w7.heap.size ≤ U.heap.size) := ⟨Nat.le_trans HVs.out hpz.size⟩
                have c1 := cells_top RU.out.head 1 (.int .i64 (t3 : Nat)) rfl
                have f1 := free_top RU.out.head 1
                have EHU' := Kp.mk EHU
                clear hU hpz EHU
                go_wp2_with fail
                have hset := heap_setCell_same U g 1 _ _ (.int .i64 (t : Nat)) RU.out.head
                obtain ⟨V1, hV1⟩ : ∃ W, W = U.setCell ⟨g, 1, none⟩ (.int .i64 (t : Nat)) := ⟨_, rfl⟩
                have hf1 : Fr U V1 (fun k => k = g) := by rw [hV1]; exact (Fr.refl U (fun k => k = g)).setCell (a := ⟨g, 1, none⟩) (.inl rfl) _
                rw [← hV1] at hset ⊢
                have RV1 := Kp.mk (RU.out.moved (t := t) hf1 hset)
                have hgB := RU.out.gB
                have FDV1 := Kp.mk (FDU.out.trans hf1 (fun k hk => .inl (.inl hk)))
                have HK1 := Kp.mk (HKU.out.kept hf1 (fun q hq e => by have := HKU.out.base q hq; have := HBq.out; omega))
                have HE1 := Kp.mk (EU.out.kept hf1 (fun A n c hm hn e => by have := HFAR.out A n c hm; have := HB7.out; omega))
                have hEH1 : V1.heap[gn]? = some (.cells #[.slice Ak nk ck, .int .u64 k.seq, .int .i64 k.kind, .slice Aw (t - s) cw] 48 (0, 0)) := (hf1.block gn (lt_of_block EHU'.out) (fun e => by have := HGN8.out; have := HB7.out; omega)).trans EHU'.out
                have n0 := cells_top hEH1 0 (.slice Ak nk ck) rfl
                have n1 := cells_top hEH1 1 (.int .u64 k.seq) rfl
                have n2 := cells_top hEH1 2 (.int .i64 k.kind) rfl
                have n3 := cells_top hEH1 3 (.slice Aw (t - s) cw) rfl
                have g3 := cells_top RV1.out.head 3 (.slice (some ⟨b, off, none⟩) no co) rfl
                have g3' := cell_kept (alloc_below V1 (.cells #[.slice Ak nk ck, .int .u64 k.seq, .int .i64 k.kind, .slice Aw (t - s) cw] 48)) g3
                have hb2 : Below V1.heap.size V1 (V1.alloc (.cells #[.slice Ak nk ck, .int .u64 k.seq, .int .i64 k.kind, .slice Aw (t - s) cw] 48)).drew := (alloc_below V1 (.cells #[.slice Ak nk ck, .int .u64 k.seq, .int .i64 k.kind, .slice Aw (t - s) cw] 48)).drew
                have hz2 : (V1.alloc (.cells #[.slice Ak nk ck, .int .u64 k.seq, .int .i64 k.kind, .slice Aw (t - s) cw] 48)).drew.heap[V1.heap.size]? = some (.cells #[.slice Ak nk ck, .int .u64 k.seq, .int .i64 k.kind, .slice Aw (t - s) cw] 48) := heap_alloc_new V1 _
                have HC2 : Kp (∀ (i : Nat) (u : Value), (#[.slice Ak nk ck, .int .u64 k.seq, .int .i64 k.kind, .slice Aw (t - s) cw] : Array Value)[i]? = some u → (V1.alloc (.cells #[.slice Ak nk ck, .int .u64 k.seq, .int .i64 k.kind, .slice Aw (t - s) cw] 48)).drew.cell? ((⟨V1.heap.size, 0, none⟩ : Addr).add i) = some u) := ⟨fun i u hu => by
                  rw [Addr.add_lit, Nat.zero_add]
                  exact cells_top hz2 i u hu⟩
                obtain ⟨W2, hW2⟩ : ∃ W, W = (V1.alloc (.cells #[.slice Ak nk ck, .int .u64 k.seq, .int .i64 k.kind, .slice Aw (t - s) cw] 48)).drew := ⟨_, rfl⟩
                rw [← hW2] at hb2 HC2
                have HW2 := Kp.mk hW2
                have RV2 := Kp.mk (RV1.out.below hb2)
                have FDV2 := Kp.mk (FDV1.out.below hb2)
                have HK2 := Kp.mk (HK1.out.below hb2)
                have HE2 := Kp.mk (HE1.out.below hb2)
                have HB2 : Kp (B ≤ W2.heap.size) := ⟨by have := HB7.out; have := HUs.out; have := hf1.size; have := hb2.size; omega⟩
                have HS2 : Kp (w.heap.size ≤ W2.heap.size) := ⟨FDV2.out.size⟩
                have HAP : Kp (∀ A n c, Value.slice (some A) n c ∈ (#[.slice Ak nk ck, .int .u64 k.seq, .int .i64 k.kind, .slice Aw (t - s) cw] : Array Value).toList → 0 < n → some A.block ≠ (Value.slice (some ⟨b, off, none⟩) no co).ownBlock) := ⟨fun A n c hm _ e => by have := HFAR.out A n c hm; have := own_blk_lt HR7.out.ow.own A.block e.symm; omega⟩
                have HLP : Kp (ps.length + 1 ≤ 2000000) := ⟨by omega⟩
                have hgn3 : some g ≠ (Value.slice (some ⟨b, off, none⟩) no co).ownBlock := fun e => by have := RV2.out.ow.base g e.symm; omega
                have HGN3 := Kp.mk hgn3
                clear hf1 hset hV1 hEH1 hb2 hz2 hW2 hgn3 c1 f1
                go_region_law ((rw [← HW2.out]; refine step_append_ow2 (w := W2) rfl (.tmp 174) (.tmp 176) rfl (.slice (some ⟨b, off, none⟩) no co) ps _ ⟨k, mv⟩ ⟨V1.heap.size, 0, none⟩ 1 rfl rfl RV2.out.ow HE2.out HAP.out HC2.out HLP.out HB2.out ?_; intro A9 n9 c9 V3 h1 h2 h3; have HO3 := Kp.mk h1; have HF3 := Kp.mk h2; have HN3 := Kp.mk h3; have hh3 := (h2.block g (lt_of_block RV2.out.head) HGN3.out).trans RV2.out.head; have f3 := free_top hh3 3; have f2 := free_top hh3 2; have d3 := cells_top hh3 3 (.slice (some ⟨b, off, none⟩) no co) rfl; have d2 := cells_top hh3 2 (.slice Al nl cl) rfl; have HH3 := Kp.mk hh3; clear h1 h2 h3 hh3))
                all_goals
                  have hn9 : n9 = ps.length + 1 := by
                    obtain ⟨A1, c1, e1⟩ := HO3.out.slice
                    rw [List.length_append, List.length_singleton] at e1
                    injection e1
                  have HK3 : Kp (Nu .u8 5 B V3 (.slice A7 n7 c7) (kb (⟨k, mv⟩ : En).k)) := ⟨by
                    have h1 := (HK2.out.kept HF3.out (fun q hq e => by have := HK2.out.base q hq; have := HOL.out q e.symm; omega)).lower HBq.out
                    show Nu _ _ _ _ _ (kb k)
                    rw [HKB.out]
                    exact h1⟩
                  have HFB : Kp (∀ A n c, Value.slice (some A) n c ∈ (#[.slice Ak nk ck, .int .u64 k.seq, .int .i64 k.kind, .slice Aw (t - s) cw] : Array Value).toList → 0 < n → B ≤ A.block) := ⟨fun A n c hm _ => Nat.le_trans HB7.out (HFAR.out A n c hm)⟩
                  have FR3 := Kp.mk (FDV2.out.trans HF3.out (fun k hk => .inl (.inr hk)))
                  clear g3 g3' n0 n1 n2 n3
                  by_cases hsh : ps.length + 1 ≤ 10000
                  · have HSt := Kp.mk (HST.out HXW.out HRE.out HRI.out hsh)
                    have hsh' : n9 ≤ 10000 := by omega
                    clear hsh hn9
                    go_wp2_with fail
                    go_ret
                    refine ⟨?_, .inl ⟨⟨k, mv⟩, t, _, _, _, HSt.out, ret_bool (decide_eq_true (by omega)), RV2.out.push HF3.out HO3.out HK3.out HFB.out ?_ ?_, ?_, fun q hq => Nat.le_trans HQs.out (HK2.out.base q hq), HN3.out.imp id (fun ⟨q, h1, h2⟩ => ⟨q, h1, Nat.le_trans HS2.out h2⟩), fun A n c hm _ => Nat.le_trans FD7.out.size (HFAR.out A n c hm)⟩⟩
                    · first
                        | exact (FR3.out.setCell (a := ⟨g, 3, none⟩) (.inl (.inl rfl)) _).setCell (a := ⟨g, 2, none⟩) (.inl (.inl rfl)) _
                        | exact (FR3.out.setCell (a := ⟨g, 2, none⟩) (.inl (.inl rfl)) _).setCell (a := ⟨g, 3, none⟩) (.inl (.inl rfl)) _
                    · first
                        | exact ((Fr.refl V3 (fun k => k = g)).setCell (a := ⟨g, 3, none⟩) (.inl rfl) _).setCell (a := ⟨g, 2, none⟩) (.inl rfl) _
                        | exact ((Fr.refl V3 (fun k => k = g)).setCell (a := ⟨g, 2, none⟩) (.inl rfl) _).setCell (a := ⟨g, 3, none⟩) (.inl rfl) _
                    · first
                        | exact heap_setCell_same _ _ 2 _ _ _ (heap_setCell_same _ _ 3 _ _ _ HH3.out)
                        | exact heap_setCell_same _ _ 3 _ _ _ (heap_setCell_same _ _ 2 _ _ _ HH3.out)
                    · show Byt (kb k)
                      rw [HKB.out]
                      exact HKb.out
                  · have HNo : Kp (∀ en t, ¬ StepE xs last true (ps.map (fun p : Pr => p.2)) a en t) := ⟨fun en t hs => hsh (by have := hs.short; rw [List.length_map] at this; exact this)⟩
                    have hsh' : ¬ n9 ≤ 10000 := by omega
                    have hsh2 : 10000 < n9 := by omega
                    clear hsh hn9
                    go_wp2_with fail
                    go_ret
                    refine ⟨?_, .inr ⟨HNo.out, ret_bool (decide_eq_false (by omega))⟩⟩
                    first
                      | exact (FR3.out.setCell (a := ⟨g, 3, none⟩) (.inl (.inl rfl)) _).setCell (a := ⟨g, 2, none⟩) (.inl (.inl rfl)) _
                      | exact (FR3.out.setCell (a := ⟨g, 2, none⟩) (.inl (.inl rfl)) _).setCell (a := ⟨g, 3, none⟩) (.inl (.inl rfl)) _

              · have HNo : Kp (∀ en t, ¬ StepE xs last true (ps.map (fun p : Pr => p.2)) a en t) := ⟨fun en t hs => hneg (by
                  have h1 := (HEN.out en t hs).1
                  have h2 := hs.rise (by rw [List.length_map]; have := HNO.out; omega)
                  rw [h1, HLK.out] at h2
                  exact h2)⟩
                have hneg' : 0 ≤ dd := by omega
                go_wp2_with fail
                refine wp_region_below (by kernel_rfl) (by kernel_rfl) ?_
                repeat (first | go_big_quiet_step ((first | (go_at_call 41; exact calls_blw (HRt.out _ (Blw.h _))) | (go_at_call 39; exact calls_blw (HCmp.out _ (Blw.h _))))) | quiet_step ((first | (go_at_call 41; exact calls_blw (HRt.out _ (Blw.h _))) | (go_at_call 39; exact calls_blw (HCmp.out _ (Blw.h _))))))
                refine wpQuiet_nil ?_
                rintro _ ⟨pz, rfl⟩
                go_wp2_with fail
                go_ret
                exact ⟨FDv.out.below pz.h, .inr ⟨HNo.out, rfl⟩⟩

          · have HNo : Kp (∀ en t, ¬ StepE xs last true (ps.map (fun p : Pr => p.2)) a en t) := ⟨fun en t hs => hre ((HEN.out en t hs).1 ▸ hs.right)⟩
            have HRt := Kp.mk (fun (W : World) (hb : Below V.heap.size V W) => right_entry (EV.out.below hb))
            rw [decide_eq_false hre] at HRt
            clear hre
            go_wp2_with fail
            refine wp_region_below (by kernel_rfl) (by kernel_rfl) ?_
            repeat (first | go_big_quiet_step ((go_at_call 41; exact calls_blw (HRt.out _ (Blw.h _)))) | quiet_step ((go_at_call 41; exact calls_blw (HRt.out _ (Blw.h _)))))
            refine wpQuiet_nil ?_
            rintro _ ⟨pz, rfl⟩
            go_wp2_with fail
            go_ret
            exact ⟨FDv.out.below pz.h, .inr ⟨HNo.out, rfl⟩⟩

        · have HNo : Kp (∀ en t, ¬ StepE xs last true (ps.map (fun p : Pr => p.2)) a en t) := ⟨fun en t hs => hxw ((HEN.out en t hs).2.trans (rfl : 0 = wantB true last ky).symm)⟩
          have b1 : ((x1 : Int) == (0 : Int)) = false := by rw [beq_eq_false_iff_ne]; omega
          have b2 : ((x1 : Int) != (0 : Int)) = true := by rw [bne_iff_ne]; omega
          clear hxw
          go_wp2_with fail
          refine wp_region_below (by kernel_rfl) (by kernel_rfl) ?_
          repeat (first | go_big_quiet_step (fail) | quiet_step (fail))
          refine wpQuiet_nil ?_
          rintro _ ⟨pz, rfl⟩
          go_wp2_with fail
          go_ret
          exact ⟨FDv.out.below pz.h, .inr ⟨HNo.out, rfl⟩⟩


    · clear HRk
      have hb10 := alloc_below w9 (.cells #[.slice none 0 0, .int .u64 0, .int .i64 0] 46)
      have g9 := heap_alloc_new w9 (.cells #[.slice none 0 0, .int .u64 0, .int .i64 0] 46)
      obtain ⟨W9, hW9⟩ : ∃ W, W = w9.alloc (.cells #[.slice none 0 0, .int .u64 0, .int .i64 0] 46) := ⟨_, rfl⟩
      rw [← hW9] at hb10 g9
      have hdr : Below W9.heap.size W9 W9.drew := (Below.refl _ _).drew
      have hall := hb9.trans ((hb10.trans (hdr.mono hb10.size)).mono hb9.size)
      have HALL := Kp.mk hall
      have HRe := Kp.mk (HR7.out.below hall)
      have FDe := Kp.mk (FD7.out.below hall)
      have HBe : Kp (B ≤ W9.drew.heap.size) := ⟨Nat.le_trans HB7.out hall.size⟩
      have HNe := Kp.mk (HNk.out.below hall)
      have gd := (hdr.block _ (lt_of_block g9)).trans g9
      obtain ⟨gz, hgz⟩ : ∃ gz, gz = w9.heap.size := ⟨_, rfl⟩
      rw [← hgz] at gd
      have Hgz : Kp (w7.heap.size ≤ gz) := ⟨by rw [hgz]; exact hb9.size⟩
      have GD := Kp.mk gd
      have y0 := cells_top gd 0 (.slice none 0 0) rfl
      have y1 := cells_top gd 1 (.int .u64 0) rfl
      have y2 := cells_top gd 2 (.int .i64 0) rfl
      have j0 := cells_top HRe.out.head 0 (.slice A n c) rfl
      have j1 := cells_top HRe.out.head 1 (.int .i64 (t3 : Nat)) rfl
      obtain ⟨Av, hif2, hrv⟩ := rd_mid HRe.out.rd hc hst htn
      have HRv := Kp.mk hrv
      have haZ : Below W9.drew.heap.size W9.drew (W9.alloc (.cells #[.slice none 0 0, .int .u64 0, .int .i64 0, .slice none 0 0] 48)).drew := alloc_below W9.drew (.cells #[.slice none 0 0, .int .u64 0, .int .i64 0, .slice none 0 0] 48)
      have j0z := cell_kept haZ j0
      have j1z := cell_kept haZ j1
      have y0z := cell_kept haZ y0
      have y1z := cell_kept haZ y1
      have y2z := cell_kept haZ y2
      have HaZ := Kp.mk haZ
      have HRvZ := Kp.mk (hrv.below haZ)
      have ne_y0 : W9.heap.size ≠ gz := World.new_ne W9.drew _ y0
      have ne_j0 : W9.heap.size ≠ g := World.new_ne W9.drew _ j0
      have HWN := Kp.mk hW9
      have HGN := Kp.mk hgz
      clear hb10 g9 hW9 hdr hall gd hgz hrv haZ hb9
      go_wp2_with fail
      rewrite [← HWN.out, ← HGN.out]
      go_region_held3 (fun W => W.cell? ⟨g, 0, none⟩ = some (.slice A n c) ∧ W.cell? ⟨g, 1, none⟩ = some (.int .i64 (t3 : Nat)) ∧ W.cell? ⟨gz, 0, none⟩ = some (.slice none 0 0) ∧ W.cell? ⟨gz, 1, none⟩ = some (.int .u64 0) ∧ W.cell? ⟨gz, 2, none⟩ = some (.int .i64 0)) (first | go_keep | exact ⟨j0, j1, y0, y1, y2⟩ | exact ⟨j0a, j1a, y0a, y1a, y2a⟩ | exact ⟨j0b, j1b, y0b, y1b, y2b⟩ | exact ⟨j0z, j1z, y0z, y1z, y2z⟩)
        ((go_at_call 43; first
          | (refine (clone_nu (w := (W9.alloc (.cells #[.slice none 0 0, .int .u64 0, .int .i64 0, .slice none 0 0] 48)).drew) HRvZ.out).mono ?_; rintro e w10 ⟨Aw, cw, rfl, h1, h2⟩; have HCL := Kp.mk h1; have HBL := Kp.mk (HaZ.out.trans (h2.mono HaZ.out.size)); have j0b := cell_kept HBL.out j0; have j1b := cell_kept HBL.out j1; have y0b := cell_kept HBL.out y0; have y1b := cell_kept HBL.out y1; have y2b := cell_kept HBL.out y2; have GZ : w10.heap[W9.heap.size]? = some (.cells #[.slice none 0 0, .int .u64 0, .int .i64 0, .slice none 0 0] 48) := (h2.block _ (by simp)).trans (heap_alloc_new _ _); have n0 := cells_top GZ 0 (.slice none 0 0) rfl; have n1 := cells_top GZ 1 (.int .u64 0) rfl; have n2 := cells_top GZ 2 (.int .i64 0) rfl; have n3 := cells_top GZ 3 (.slice none 0 0) rfl; have m0 := free_top GZ 0; have m1 := free_top GZ 1; have m2 := free_top GZ 2; have m3 := free_top GZ 3; have HGZ := Kp.mk GZ; clear GZ h1 h2)
          | (refine (clone_nu (w := W9.drew) HRv.out).mono ?_; rintro e w10 ⟨Aw, cw, rfl, h1, h2⟩; have HCL := Kp.mk h1; have HBL := Kp.mk h2; have j0a := cell_kept h2 j0; have j1a := cell_kept h2 j1; have y0a := cell_kept h2 y0; have y1a := cell_kept h2 y1; have y2a := cell_kept h2 y2; have me_y0 := World.new_ne w10 _ y0a; have me_j0 := World.new_ne w10 _ j0a; clear h1 h2)))
      all_goals
        first
          | (refine as_world (fun W => Below W9.drew.heap.size W9.drew W ∧ W.heap[w10.heap.size]? = some (.cells #[.slice none 0 0, .int .u64 0, .int .i64 0, .slice Aw (t - s) cw] 48 (0, 0)) ∧ Nu .u8 5 W9.drew.heap.size W (.slice Aw (t - s) cw) ((xs.drop s).take (t - s))) ⟨HBL.out.trans ((alloc_below _ _).mono HBL.out.size), heap_alloc_new _ _, HCL.out.below (alloc_below _ _)⟩ ?_
             rintro V ⟨hV, hE, hN⟩
             obtain ⟨gn, hgn⟩ : ∃ q, q = w10.heap.size := ⟨_, rfl⟩
             have hgn8 : w7.heap.size ≤ gn := by rw [hgn]; exact Nat.le_trans HALL.out.size HBL.out.size
             rw [← hgn] at hE ⊢
             clear hgn)
          | (have hp4 := put4 HGZ.out (.slice none 0 0) (.int .u64 0) (.int .i64 0) (.slice Aw (t - s) cw)
             have hsz : W9.heap.size < (W9.alloc (.cells #[.slice none 0 0, .int .u64 0, .int .i64 0, .slice none 0 0] 48)).drew.heap.size := by simp
             have hf1 := ((Fr.of_below (S := fun k => k = W9.heap.size) HBL.out).trans hp4.2 (fun k hk => .inl hk)).toBelow (fun k hk => Nat.le_of_eq hk.symm) (Nat.le_refl _)
             have hf2 := (HCL.out.kept hp4.2 (fun q hq e => Nat.lt_irrefl q (Nat.lt_of_lt_of_le (by rw [e]; exact hsz) (HCL.out.base q hq)))).lower (Nat.le_of_lt hsz)
             refine as_world (fun W => Below W9.drew.heap.size W9.drew W ∧ W.heap[W9.heap.size]? = some (.cells #[.slice none 0 0, .int .u64 0, .int .i64 0, .slice Aw (t - s) cw] 48 (0, 0)) ∧ Nu .u8 5 W9.drew.heap.size W (.slice Aw (t - s) cw) ((xs.drop s).take (t - s))) ⟨hf1, hp4.1, hf2⟩ ?_
             clear hp4 hf1 hf2 hsz
             rintro V ⟨hV, hE, hN⟩
             obtain ⟨gn, hgn⟩ : ∃ q, q = W9.heap.size := ⟨_, rfl⟩
             have hgn8 : w7.heap.size ≤ gn := by rw [hgn]; exact HALL.out.size
             rw [← hgn] at hE ⊢
             clear hgn)
        have FDv := Kp.mk (FDe.out.below hV)
        have HNo : Kp (∀ en t, ¬ StepE xs last true (ps.map (fun p : Pr => p.2)) a en t) := ⟨fun en t' hs => by
          obtain ⟨h1, h2, h3⟩ := THR.out.only hs
          exact hno en.k hs.right.key hs.seq (by rw [h1, HKy.out, Hsm.out])⟩
        have hra : (r == 0) = false := by simpa using hr
        have hrb : (r != 0) = true := by simpa using hr
        clear hV hE hN hgn8 j0 j1 y0 y1 y2 HNe HRe FDe hno hr
        try clear j0a j1a y0a y1a y2a me_y0 me_j0
        try clear j0b j1b y0b y1b y2b n0 n1 n2 n3 m0 m1 m2 m3
        try clear j0z j1z y0z y1z y2z ne_y0 ne_j0
        go_wp2_with fail
        refine wp_region_below (by kernel_rfl) (by kernel_rfl) ?_
        repeat (first | go_big_quiet_step (fail) | quiet_step (fail))
        refine wpQuiet_nil ?_
        rintro _ ⟨pz, rfl⟩
        go_wp2_with fail
        go_ret
        exact ⟨FDv.out.below pz.h, .inr ⟨HNo.out, rfl⟩⟩

  · have HNo : Kp (∀ en t, ¬ StepE xs last true (ps.map (fun p : Pr => p.2)) a en t) := ⟨fun en t hs => by
      obtain ⟨s1, s2, s3, T, _⟩ := hs.three
      obtain ⟨r1, rfl⟩ := V1.out.one T.v1
      obtain ⟨r2, rfl⟩ := V2.out.one T.v2
      obtain ⟨r3, rfl⟩ := V3.out.one T.v3
      have := T.room
      rw [← r2, ← r3] at this
      omega⟩
    have hdm : d < m := by omega
    go_wp2_with fail
    refine wp_region_below (by kernel_rfl) (by kernel_rfl) ?_
    repeat (first | go_big_quiet_step (fail) | quiet_step (fail))
    refine wpQuiet_nil ?_
    rintro _ ⟨pq, rfl⟩
    go_wp2_with fail
    go_ret
    exact ⟨FD.out.below pq.h, .inr ⟨HNo.out, rfl⟩⟩
end Go.Proofs.Ytinffeffffligaa.Bas
