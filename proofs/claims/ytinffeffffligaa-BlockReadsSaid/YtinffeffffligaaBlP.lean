import Derived.Test.YtinffeffffligaaBlO
set_option linter.unusedVariables false
set_option linter.unusedSimpArgs false
namespace Go.Proofs.Ytinffeffffligaa.Bas
open Go.RowKit Go.Maps

set_option maxHeartbeats 2000000 in
set_option maxRecDepth 100000 in
theorem key_read {w : World} {A : Option Addr} {n c : Nat} {xs : List Int} (h : Rd w .u8 A n c xs) (hc : n ≤ c) (hb : Byt xs) : Calls Try.prog 69 #[.slice A n c] w (ReadP xs w) := by
  have hl := h.len
  have hm := h.max
  by_cases h9 : n < 9
  · have HS := Kp.mk (short_no (xs := xs) (by omega))
    have hw8 : IntKind.i64.wrap ((n : Int) - 8) = (n : Int) - 8 := IntWalk.i64_in _ (by omega)
    have hlt1 : (n : Int) - 8 < 1 := by omega
    have hg : (w.alloc (.cells #[.slice none 0 0, .int .u64 0, .int .i64 0] 46)).heap[w.heap.size]? = some (.cells #[.slice none 0 0, .int .u64 0, .int .i64 0] 46) := heap_alloc_new _ _
    clear h hb hl
    go_enter Try.func69, Try.ntmps69
    go_wp2_with fail
    exact ret_cp rfl rfl rfl hg Try.underlying46 rfl (by kernel_rfl) rfl ⟨alloc_below _ _, .inr ⟨4, by omega, rfl, HS.out⟩⟩
  · obtain ⟨m, hmn⟩ : ∃ m, n = m + 8 := ⟨n - 8, by omega⟩
    have hw8 : IntKind.i64.wrap ((n : Int) - 8) = (m : Int) := (IntWalk.i64_in _ (by omega)).trans (by omega)
    obtain ⟨q, hq⟩ : ∃ q, q = numB (xs.drop m) := ⟨_, rfl⟩
    have hm8 : xs.length - 8 = m := by omega
    have hq64 : q < 18446744073709551616 := by
      have h1 := numB_lt (byt_drop hb m)
      have h2 : (xs.drop m).length = 8 := by rw [List.length_drop]; omega
      rw [h2, ← hq] at h1
      omega
    have hkb := kyOf_kb hb (by omega)
    have hone := fun k hr h0 he => kyOf_one (xs := xs) (k := k) hr h0 he
    have hkd : kyOf xs = ⟨xs.take m, ((q / 256 : Nat) : Int), ((q % 256 : Nat) : Int)⟩ := by unfold kyOf; rw [hm8, ← hq]
    rw [hkd] at hkb hone
    obtain ⟨s, hs⟩ : ∃ s, s = q / 256 := ⟨_, rfl⟩
    obtain ⟨d, hd⟩ : ∃ d, d = q % 256 := ⟨_, rfl⟩
    rw [← hs, ← hd] at hkb hone
    have f1 : (q : Int) / 256 = (s : Int) := by omega
    have f2 : bits .and .u64 (q : Int) 255 = (d : Int) := by rw [show (255 : Int) = ((255 : Nat) : Int) from rfl, and64 hq64 (by omega), and255, ← hd]
    have f3 : IntKind.i64.wrap (d : Int) = (d : Int) := IntWalk.i64_in _ (by omega)
    obtain ⟨ks, hks⟩ : ∃ ks, ks = xs.take m := ⟨_, rfl⟩
    have hR := h.take (m := m) (by omega)
    rw [← hks] at hR hkb hone
    have hkl : ks.length = m := hR.len
    have hbk : Byt ks := by rw [hks]; exact byt_take hb m
    have hdr : (xs.drop m).take 8 = xs.drop m := List.take_of_length_le (by rw [List.length_drop]; omega)
    have HQ : Kp (numB ((xs.drop (m + 0)).take (8 - 0)) = q) := ⟨by rw [Nat.add_zero, Nat.sub_zero, hdr, hq]⟩
    have Hr1 := Kp.mk (h.below (show Below w.heap.size w (w.alloc (.cells #[.slice none 0 0, .int .u64 0, .int .i64 0] 46)) from alloc_below _ _))
    have HBy := Kp.mk hb
    have Hln : Kp (xs.length = m + 8) := ⟨by omega⟩
    have hwl : IntKind.i64.wrap ((n : Int) - 1) = (m : Int) + 7 := (IntWalk.i64_in _ (by omega)).trans (by omega)
    have hm1 : ¬ (m : Int) < 1 := by omega
    have f4 : (q : Int) % 256 = (d : Int) := by omega
    have HR := Kp.mk hR
    have HKb := Kp.mk hkb
    have HOne := Kp.mk hone
    have Hbk := Kp.mk hbk
    have Hkl := Kp.mk hkl
    obtain ⟨W1, hW1⟩ : ∃ W1, W1 = w.alloc (.cells #[.slice none 0 0, .int .u64 0, .int .i64 0] 46) := ⟨_, rfl⟩
    have hb1 : Below w.heap.size w W1 := by rw [hW1]; exact alloc_below _ _
    have g1 : W1.heap[w.heap.size]? = some (.cells #[.slice none 0 0, .int .u64 0, .int .i64 0] 46) := by rw [hW1]; exact heap_alloc_new _ _
    have HB1 := Kp.mk hb1
    have G1 := Kp.mk g1
    have HW1 := Kp.mk hW1
    have hmc : m ≤ c := by omega
    have hmx : m * 1 ≤ 140737488355328 := by omega
    have hdec : ∀ (W : World) A2 c2, Rd W .u8 A2 m c2 ks → Calls Try.prog 42 #[.agg #[.slice A2 m c2, .int .u64 s, .int .i64 d]] W fun e w' => e = .returned (.bool (decide (RightK ⟨ks, (s : Int), (d : Int)⟩))) ∧ Below W.heap.size W w' := fun W A2 c2 hr => right_any ⟨A2, m, c2, rfl, hr, hbk⟩
    have HDec := Kp.mk hdec
    have hnm : n = m + 8 := hmn
    have Hnm := Kp.mk hnm
    have hm47 : m + 8 ≤ 140737488355328 := by omega
    clear h hb hl hq hs hd hks hR hkb hone hkd hdr hbk hkl hb1 g1 hW1 hdec hmn hnm hq64 hm8 f2
    go_enter Try.func69, Try.ntmps69
    go_wp2_with fail
    rw [← HW1.out]
    rw [← HW1.out] at Hr1
    go_loopw [6, 5] (fun u v wr => ∃ (j y : Nat) (z : Int), j ≤ 8 ∧ u = .int .i64 z ∧ z + 1 = (m : Int) + (j : Int) ∧ v = .int .u64 y ∧ Kp (y = numB ((xs.drop (m + j)).take (8 - j))) ∧ wr = W1) (fun u _ _ => (intOf u + 1 - m).toNat)
    case atStart => exact ⟨8, 0, (m : Int) + 7, Nat.le_refl _, rfl, by omega, rfl, ⟨by rw [Nat.sub_self]; rfl⟩, rfl⟩
    case round =>
      obtain ⟨j, y, z, hj, rfl, hz, rfl, Hy, rfl⟩ := hrel
      by_cases h0 : j = 0
      · have hz0 : z < (m : Int) := by omega
        obtain rfl : y = q := by rw [Hy.out, h0]; exact HQ.out
        clear Hy hz h0 HQ
        go_wp2_with (go_at_call 43; refine (clone_nu (HR.out.below HB1.out)).mono ?_; rintro e w3 ⟨A2, c2, rfl, h1, h2⟩; have HN := Kp.mk h1; have HB3 := Kp.mk h2; clear h1 h2)
        obtain ⟨b, hb⟩ : ∃ b, decide (RightK ⟨ks, (s : Int), (d : Int)⟩) = b := ⟨_, rfl⟩
        have hz : w.heap.size < wr.heap.size := lt_of_block G1.out
        have hb3 : Below wr.heap.size wr (w3.alloc (.cells #[.slice A2 m c2, .int .u64 s, .int .i64 d] 46)) := HB3.out.alloc HB3.out.size _
        have hcall := HDec.out (w3.alloc (.cells #[.slice A2 m c2, .int .u64 s, .int .i64 d] 46)) A2 c2 (((HN.out.below (alloc_below w3 _)).rd (by have := Hkl.out; omega)).2.1)
        rw [hb] at hcall
        refine hcall.mono ?_
        rintro e w4 ⟨rfl, h4⟩
        have hb4 : Below wr.heap.size wr w4 := hb3.trans (h4.mono hb3.size)
        have k1 : w4.heap[w.heap.size]? = some (.cells #[.slice none 0 0, .int .u64 0, .int .i64 0] 46) := (hb4.block _ hz).trans G1.out
        have k2 : w4.heap[w3.heap.size]? = some (.cells #[.slice A2 m c2, .int .u64 s, .int .i64 d] 46) := (h4.block _ (by simp)).trans (heap_alloc_new w3 _)
        have c0 := cells_top k2 0 _ rfl
        have c1 := cells_top k2 1 _ rfl
        have c2' := cells_top k2 2 _ rfl
        have r0 := cells_top k1 0 _ rfl
        have r1 := cells_top k1 1 _ rfl
        have r2 := cells_top k1 2 _ rfl
        have q0 := free_top k1 0
        have q1 := free_top k1 1
        have q2 := free_top k1 2
        have HN4 := Kp.mk ((HN.out.below (alloc_below w3 (.cells #[.slice A2 m c2, .int .u64 s, .int .i64 d] 46))).below h4)
        have HB4 : Kp (Below w.heap.size w w4) := ⟨HB1.out.trans (hb4.mono HB1.out.size)⟩
        have K1 := Kp.mk k1
        have Hz := Kp.mk hz
        have Hb := Kp.mk hb
        clear hcall h4 hb4 hb3 k1 k2 hz hb HDec HN HB3
        cases b with
        | false =>
          have HNo : Kp (∀ k, RightK k → 0 ≤ k.seq → kb k ≠ xs) := ⟨fun k hr h0 he => by
            have := HOne.out k hr h0 he
            rw [this] at Hb
            exact of_decide_eq_false Hb.out hr⟩
          go_wp2_with fail
          obtain ⟨a3, hfr⟩ := put3 K1.out (.slice none 0 0) (.int .u64 0) (.int .i64 0)
          exact ret_cp rfl rfl rfl a3 Try.underlying46 rfl (by kernel_rfl) rfl ⟨HB4.out.trans (hfr.toBelow (fun k hk => Nat.le_of_eq hk.symm) HB4.out.size), .inr ⟨2, by omega, rfl, HNo.out⟩⟩
        | true =>
          have HRk := Kp.mk (of_decide_eq_true Hb.out)
          go_wp2_with fail
          obtain ⟨a3, hfr⟩ := put3 K1.out (.slice A2 m c2) (.int .u64 s) (.int .i64 d)
          have hnn := (HN4.out.kept hfr (fun k hk hS => by have := HN4.out.base k hk; have := Hz.out; omega)).lower (Nat.le_of_lt Hz.out)
          exact ret_cp rfl rfl rfl a3 Try.underlying46 rfl (by kernel_rfl) rfl ⟨HB4.out.trans (hfr.toBelow (fun k hk => Nat.le_of_eq hk.symm) HB4.out.size), .inl ⟨A2, m, c2, ⟨ks, (s : Int), (d : Int)⟩, rfl, HKb.out, HRk.out, Int.natCast_nonneg _, Hbk.out, hnn⟩⟩
      · obtain ⟨p, hp⟩ : ∃ p, j = p + 1 := ⟨j - 1, by omega⟩
        obtain ⟨r, hr⟩ : ∃ r : Nat, r = m + p := ⟨_, rfl⟩
        have hzq : z = (r : Int) := by omega
        subst hzq
        have hp8 : p < 8 := by omega
        have hmr : (m : Int) ≤ (r : Int) := by omega
        have hrn : r < n := by have := Hnm.out; omega
        obtain ⟨ad, rfl, hcell⟩ := Hr1.out.cell (by omega)
        have x0 := hcell r hrn
        have hbk := byt_getD HBy.out r
        obtain ⟨e, he⟩ : ∃ d : Nat, xs.getD r 0 = (d : Int) := ⟨(xs.getD r 0).toNat, by omega⟩
        rw [he] at x0 hbk
        have hd8 : e < 256 := by omega
        have hd64 : (e : Int) % 18446744073709551616 = (e : Int) := by omega
        have hylt : y < 72057594037927936 := by
          have h1 := numB_at_lt HBy.out (m + j) (8 - j)
          have h2 : (256 : Nat) ^ (8 - j) ≤ 256 ^ 7 := Nat.pow_le_pow_right (by omega) (by omega)
          rw [← Hy.out] at h1
          omega
        obtain ⟨s1, s2⟩ := shl_bits hylt hd8
        obtain ⟨t, ht⟩ : ∃ t : Nat, t = 256 * y := ⟨_, rfl⟩
        obtain ⟨y2, hy2⟩ : ∃ r : Nat, r = e + 256 * y := ⟨_, rfl⟩
        have HS : Kp (y2 = numB ((xs.drop (m + p)).take (8 - p))) := ⟨by rw [numB_step hp8 (by have := Hln.out; omega), ← hr, he, hy2, Hy.out, hp]; rfl⟩
        rw [← hy2, ← ht] at s2
        rw [← ht] at s1
        have s3 : (y : Int) * 256 % 18446744073709551616 = (t : Int) := by rw [← wrap_u64]; exact s1
        have hz2 : (r : Int) - 1 + 1 = (m : Int) + (p : Int) := by omega
        have hms : ((r : Int) - 1 + 1 - (m : Int)).toNat < ((r : Int) + 1 - (m : Int)).toNat := by omega
        clear hcell hbk he ht hy2 Hy hylt hz hp h0 hr
        go_wp2_with fail
        go_roundw
        case rel => exact ⟨p, y2, (r : Int) - 1, by omega, by go_num, hz2, rfl, HS, by first | rfl | trivial⟩
        case measure => simp [intOf]; omega
end Go.Proofs.Ytinffeffffligaa.Bas
