import Derived.Test.YtinffeffffligaaBlM
set_option linter.unusedVariables false
set_option linter.unusedSimpArgs false
namespace Go.Proofs.Ytinffeffffligaa.Bas
open Go.RowKit Go.Maps

/-! ### A key's bytes, by the code -/
set_option maxHeartbeats 1000000 in
set_option maxRecDepth 100000 in
theorem clone_nu {w : World} {A : Option Addr} {n c : Nat} {xs : List Int} (h : Rd w .u8 A n c xs) : Calls Try.prog 43 #[.slice A n c] w fun en w' => ∃ A' c', en = .returned (.slice A' n c') ∧ Nu .u8 5 w.heap.size w' (.slice A' n c') xs ∧ Below w.heap.size w w' := by
  have hl := h.len
  have hm := h.max
  cases A with
  | none =>
    obtain ⟨rfl, rfl⟩ := h.nil rfl
    have hx : xs = [] := List.eq_nil_of_length_eq_zero h.len
    subst hx
    have he : ∀ w, (binOp .eql 25 (.slice none 0 0) (.slice none 0 0)).run Try.prog w = .ok (.bool true) w := fun w => Lib.run_eql_slice_nil w 25 5 none 0 0 0 0 Try.underlying25
    go_enter Try.func43, Try.ntmps43
    go_wp2
    go_ret
    exact ⟨none, 0, rfl, Nu.nil _ _ _ _, Below.refl _ _⟩
  | some ad =>
    have he : ∀ w, (binOp .eql 25 (.slice (some ad) n c) (.slice none 0 0)).run Try.prog w = .ok (.bool false) w := fun w => Lib.run_eql_slice_nil w 25 5 (some ad) n c 0 0 Try.underlying25
    have H := Kp.mk h
    have Hl := Kp.mk hl
    clear h hl
    go_enter Try.func43, Try.ntmps43
    go_wp2_with (at_builtin; refine wpList_append_rd _ rfl (.tmp 5) (.tmp 6) 25 5 .u8 1 w.heap.size rfl Try.underlying25 Try.infoU8 (by decide) (.slice (some ⟨w.heap.size, 0, none⟩) 0 0) 0 n c [] xs (some ad) rfl rfl (own_empty w 5) (H.out.below (alloc_below w _)) (by omega) (by simp) ?_; intro A' c' w2 hown2 hg2 hat2; simp only [Nat.zero_add, List.nil_append] at hown2 hat2 ⊢; have Hown2 := Kp.mk hown2; have Hg2 := Kp.mk hg2; clear hown2 hg2 hat2)
    go_ret
    exact ⟨A', c', rfl, ⟨by rw [Hl.out]; exact Hown2.out⟩, (alloc_below w _).grown Hg2.out (by simp) (fun k e => by simp [Value.ownBlock] at e; omega)⟩
set_option maxHeartbeats 2000000 in
set_option maxRecDepth 100000 in
theorem key_bytes {w : World} {v : Value} {k : Ky} (h : KyV w v k) (hr : RightK k) (h0 : 0 ≤ k.seq) : Calls Try.prog 25 #[v] w fun e w' => ∃ A' c', e = .returned (.slice A' (kb k).length c') ∧ Nu .u8 5 w.heap.size w' (.slice A' (kb k).length c') (kb k) ∧ Below w.heap.size w w' := by
  have HRc := Kp.mk (fun (W : World) (hb : Below w.heap.size w W) => right_any (h.below hb))
  obtain ⟨A, n, c, rfl, h1, h2⟩ := h
  obtain ⟨x, hx, hx64, e1, e2, e3⟩ := tail_bits hr h0
  have hn : n ≤ 256 := by have := h1.len; have := hr.len; omega
  have HCl := Kp.mk (fun (W : World) (hb : Below w.heap.size w W) => clone_nu (h1.below hb))
  have hkl : n + 8 = (kb k).length := by rw [kb_len, h1.len]
  have HKl := Kp.mk hkl
  have HKb : Kp (k.key ++ lowB x 8 = kb k) := ⟨by rw [hx]; rfl⟩
  have hd : decide (RightK k) = true := decide_eq_true hr
  have Hkn := Kp.mk h1.len
  rw [hd] at HRc
  clear h1 h2 hx hkl hd hr h0
  go_enter Try.func25, Try.ntmps25
  go_wp2_with (first
    | (go_at_call 42; refine (HRc.out _ (alloc_below _ _)).mono ?_; rintro e w1 ⟨rfl, hb1⟩; have HB1 := Kp.mk ((alloc_below w (.cells #[.slice A n c, .int .u64 k.seq, .int .i64 k.kind] 46)).trans (hb1.mono (alloc_below _ _).size)); have g1 := (hb1.block w.heap.size (by simp)).trans (heap_alloc_new w (.cells #[.slice A n c, .int .u64 k.seq, .int .i64 k.kind] 46)); have Hz1 : Kp (w.heap.size < w1.heap.size) := ⟨lt_of_block g1⟩; have c0 := cells_top g1 0 _ rfl; have c1 := cells_top g1 1 _ rfl; have c2 := cells_top g1 2 _ rfl; clear hb1 g1)
    | (go_at_call 43; refine (HCl.out _ HB1.out).mono ?_; rintro e w2 ⟨A', c', rfl, h1, h2⟩; have d1 := cell_kept h2 c1; have d2 := cell_kept h2 c2; have HN := Kp.mk (h1.lower HB1.out.size); have HB2 := Kp.mk (HB1.out.trans (h2.mono HB1.out.size)); clear h1 h2 c0 c1 c2))
  clear d1 d2 e1 e2 e3
  go_loopw [18, 3, 4] (fun i u v wr => ∃ (j y : Nat) (A' : Option Addr) (c' : Nat), j ≤ 8 ∧ i = .int .i64 j ∧ u = .slice A' (n + j) c' ∧ v = .int .u64 y ∧ y < 18446744073709551616 ∧ Kp (y = x / 256 ^ j) ∧ Kp (Nu .u8 5 w.heap.size wr (.slice A' (n + j) c') (k.key ++ lowB x j)) ∧ Kp (Below w.heap.size w wr)) (fun i _ _ _ => 8 - (intOf i).toNat)
  case atStart => exact ⟨0, x, A', c', by omega, rfl, rfl, rfl, hx64, ⟨by simp⟩, ⟨by rw [show k.key ++ lowB x 0 = k.key by simp [lowB]]; exact HN.out⟩, HB2⟩
  case round =>
    obtain ⟨j, y, A1, c1, hj, rfl, rfl, rfl, hy64, Hy, HN1, HB⟩ := hrel
    by_cases hlt : j < 8
    · obtain ⟨z, hz⟩ : ∃ z : Nat, z = y % 256 := ⟨_, rfl⟩
      have hz1 : (y : Int) % 256 = (z : Int) := by omega
      obtain ⟨q, hq⟩ : ∃ q : Nat, q = y / 256 := ⟨_, rfl⟩
      have hq1 : (y : Int) / 256 = (q : Int) := by omega
      have hq64 : q < 18446744073709551616 := by omega
      have HY2 : Kp (q = x / 256 ^ (j + 1)) := ⟨by rw [hq, Hy.out, Nat.div_div_eq_div_mul, Nat.pow_succ]⟩
      have HL2 : Kp (lowB x (j + 1) = lowB x j ++ [(z : Int)]) := ⟨by rw [hz, Hy.out]; rfl⟩
      have HN2 := Kp.mk (HN1.out.below (alloc_below wr (.cells #[.int .u8 (z : Int)] 5)))
      have HB3 := Kp.mk (HB.out.alloc HB.out.size (.cells #[.int .u8 (z : Int)] 5))
      have HXl : Kp ((k.key ++ lowB x j).length = n + j) := ⟨by rw [List.length_append, lowB_len, Hkn.out]⟩
      clear hz hq Hy
      go_wp2_with (at_builtin; go_must (refine wpList_append_nu rfl (.tmp 20) (.tmp 23) 25 5 .u8 1 w.heap.size rfl Try.underlying25 Try.infoU8 (by decide) (.slice A1 (n + j) c1) 1 1 (k.key ++ lowB x j) [(z : Int)] (some ⟨wr.heap.size, 0, none⟩) rfl rfl HN2.out (rd_new1 _ _ _ _) (by rw [HXl.out]; omega) HB3.out.size ?_); intro A2 c2 w3 h1 h2 h3; rw [HXl.out, List.append_assoc, ← HL2.out] at h1; rw [HXl.out]; have HN3 := Kp.mk h1; have HB4 := Kp.mk (HB3.out.trans h3); clear h1 h2 h3)
      go_roundw
      case rel => exact ⟨j + 1, q, A2, c2, by omega, by go_num, rfl, rfl, hq64, HY2, HN3, HB4⟩
      case measure => simp [intOf]; omega
    · obtain rfl : j = 8 := by omega
      go_wp2_with fail
      go_ret
      have hN := HN1.out
      rw [HKl.out, HKb.out] at hN
      exact ⟨A1, c1, ret_sl HKl.out, hN, HB.out⟩
end Go.Proofs.Ytinffeffffligaa.Bas
