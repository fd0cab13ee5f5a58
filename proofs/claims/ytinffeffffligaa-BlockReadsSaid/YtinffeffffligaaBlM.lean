import Derived.Test.YtinffeffffligaaBlL
set_option linter.unusedVariables false
set_option linter.unusedSimpArgs false
namespace Go.Proofs.Ytinffeffffligaa.Bas
open Go.RowKit Go.Maps

theorem ret_sl {A : Option Addr} {n m c : Nat} (h : n = m) : Ending.returned (.slice A n c) = .returned (.slice A m c) := by rw [h]
/-! ### Keys that may be, and their bytes -/
structure RightK (k : Ky) : Prop where
  low : 1 ≤ k.key.length
  len : k.key.length ≤ 256
  seq : k.seq ≤ 72057594037927935
  kind : k.kind = 0 ∨ k.kind = 1
instance (k : Ky) : Decidable (RightK k) :=
  decidable_of_iff (1 ≤ k.key.length ∧ k.key.length ≤ 256 ∧ k.seq ≤ 72057594037927935 ∧ (k.kind = 0 ∨ k.kind = 1)) ⟨fun ⟨a, b, c, d⟩ => ⟨a, b, c, d⟩, fun h => ⟨h.low, h.len, h.seq, h.kind⟩⟩
/-- The number that stands behind a key. -/
def tailN (k : Ky) : Nat := k.seq.toNat * 256 + k.kind.toNat
def kb (k : Ky) : List Int := k.key ++ lowB (tailN k) 8
theorem kb_len (k : Ky) : (kb k).length = k.key.length + 8 := by unfold kb; rw [List.length_append, lowB_len]
theorem kb_byt {k : Ky} (h : Byt k.key) : Byt (kb k) := byt_append h (lowB_byt _ _)
theorem right_cases (k : Ky) : (k.key.length < 1 ∧ ¬ RightK k) ∨ (1 ≤ k.key.length ∧ 256 < k.key.length ∧ ¬ RightK k) ∨ (1 ≤ k.key.length ∧ k.key.length ≤ 256 ∧ 72057594037927935 < k.seq ∧ ¬ RightK k) ∨
    (1 ≤ k.key.length ∧ k.key.length ≤ 256 ∧ k.seq ≤ 72057594037927935 ∧ k.kind = 0 ∧ RightK k) ∨ (1 ≤ k.key.length ∧ k.key.length ≤ 256 ∧ k.seq ≤ 72057594037927935 ∧ k.kind = 1 ∧ RightK k) ∨
    (1 ≤ k.key.length ∧ k.key.length ≤ 256 ∧ k.seq ≤ 72057594037927935 ∧ ((k.kind == 0) = false) ∧ ((k.kind == 1) = false) ∧ ¬ RightK k) := by
  by_cases h1 : k.key.length < 1
  · exact .inl ⟨h1, fun h => by have := h.low; omega⟩
  by_cases h2 : 256 < k.key.length
  · exact .inr (.inl ⟨by omega, h2, fun h => by have := h.len; omega⟩)
  by_cases h3 : 72057594037927935 < k.seq
  · exact .inr (.inr (.inl ⟨by omega, by omega, h3, fun h => by have := h.seq; omega⟩))
  by_cases h4 : k.kind = 0
  · exact .inr (.inr (.inr (.inl ⟨by omega, by omega, by omega, h4, ⟨by omega, by omega, by omega, .inl h4⟩⟩)))
  by_cases h5 : k.kind = 1
  · exact .inr (.inr (.inr (.inr (.inl ⟨by omega, by omega, by omega, h5, ⟨by omega, by omega, by omega, .inr h5⟩⟩))))
  · exact .inr (.inr (.inr (.inr (.inr ⟨by omega, by omega, by omega, by simpa using h4, by simpa using h5, fun h => by rcases h.kind with h | h <;> omega⟩))))
set_option maxHeartbeats 2000000 in
set_option maxRecDepth 100000 in
theorem right_any {w : World} {v : Value} {k : Ky} (h : KyV w v k) : Calls Try.prog 42 #[v] w fun e w' => e = .returned (.bool (decide (RightK k))) ∧ Below w.heap.size w w' := by
  obtain ⟨A, n, c, rfl, h1, h2⟩ := h
  have hl := h1.len
  have hb : Below w.heap.size w (w.alloc (.cells #[.slice A n c, .int .u64 k.seq, .int .i64 k.kind] 46)) := alloc_below _ _
  have HB := Kp.mk hb
  have hc := right_cases k
  rw [hl] at hc
  clear h1 h2 hb hl
  rcases hc with ⟨a1, hk⟩ | ⟨a1, a2, hk⟩ | ⟨a1, a2, a3, hk⟩ | ⟨a1, a2, a3, a4, hk⟩ | ⟨a1, a2, a3, a4, hk⟩ | ⟨a1, a2, a3, a4, a5, hk⟩
  all_goals
    have HK := Kp.mk hk
    clear hk
    go_enter Try.func42, Try.ntmps42
    go_wp2_with fail
    go_ret
    exact ⟨ret_bool (by first | rw [decide_eq_false HK.out] | rw [decide_eq_true HK.out]), alloc_below _ _⟩
set_option maxHeartbeats 2000000 in
set_option maxRecDepth 100000 in
theorem ref_right {w : World} {v : Value} {k : Ky} (h : KyV w v k) : Calls Try.prog 62 #[v] w fun e w' => e = .returned (.bool (decide (RightK k))) ∧ Below w.heap.size w w' := by
  obtain ⟨A, n, c, rfl, h1, h2⟩ := h
  have hl := h1.len
  have hb : Below w.heap.size w (w.alloc (.cells #[.slice A n c, .int .u64 k.seq, .int .i64 k.kind] 46)) := alloc_below _ _
  have HB := Kp.mk hb
  have hc := right_cases k
  rw [hl] at hc
  clear h1 h2 hb hl
  rcases hc with ⟨a1, hk⟩ | ⟨a1, a2, hk⟩ | ⟨a1, a2, a3, hk⟩ | ⟨a1, a2, a3, a4, hk⟩ | ⟨a1, a2, a3, a4, hk⟩ | ⟨a1, a2, a3, a4, a5, hk⟩
  all_goals
    have HK := Kp.mk hk
    clear hk
    go_enter Try.func62, Try.ntmps62
    go_wp2_with fail
    go_ret
    exact ⟨ret_bool (by first | rw [decide_eq_false HK.out] | rw [decide_eq_true HK.out]), alloc_below _ _⟩
/-! ### A key's bytes -/
theorem tail_bits {k : Ky} (h : RightK k) (h0 : 0 ≤ k.seq) : ∃ x : Nat, x = tailN k ∧ x < 18446744073709551616 ∧ bits .or .u64 (k.seq * 256) k.kind = (x : Int) ∧ (k.seq * 256) % 18446744073709551616 = k.seq * 256 ∧ k.kind % 18446744073709551616 = k.kind := by
  obtain ⟨s, hs⟩ := Int.eq_ofNat_of_zero_le h0
  have h1 := h.seq
  have h2 : 0 ≤ k.kind ∧ k.kind ≤ 1 := by rcases h.kind with h | h <;> omega
  obtain ⟨d, hd⟩ := Int.eq_ofNat_of_zero_le h2.1
  refine ⟨_, rfl, ?_, ?_, by omega, by omega⟩
  · unfold tailN; omega
  · have e : k.seq * 256 = ((2 ^ 8 * s : Nat) : Int) := by omega
    rw [e, hd, or64 (by omega) (by omega), or_apart (by omega)]
    unfold tailN
    omega
set_option maxHeartbeats 2000000 in
set_option maxRecDepth 100000 in
theorem ref_keybytes {w : World} {v : Value} {k : Ky} (h : KyV w v k) (hr : RightK k) (h0 : 0 ≤ k.seq) : Calls Try.prog 46 #[v] w fun e w' => ∃ A' c', e = .returned (.slice A' (kb k).length c') ∧ Nu .u8 5 w.heap.size w' (.slice A' (kb k).length c') (kb k) ∧ Below w.heap.size w w' := by
  have HRc := Kp.mk (fun (W : World) (hb : Below w.heap.size w W) => ref_right (h.below hb))
  obtain ⟨A, n, c, rfl, h1, h2⟩ := h
  obtain ⟨x, hx, hx64, e1, e2, e3⟩ := tail_bits hr h0
  have hn : n ≤ 1000000000 := by have := h1.len; have := hr.len; omega
  have HLo := Kp.mk (fun (W : World) (hb : Below w.heap.size w W) => ref_low (h1.below hb) hx64 (m := 8) (by omega) hn)
  have hkl : n + 8 = (kb k).length := by rw [kb_len, h1.len]
  have HKl := Kp.mk hkl
  have HKb : Kp (k.key ++ lowB x 8 = kb k) := ⟨by rw [hx]; rfl⟩
  have hd : decide (RightK k) = true := decide_eq_true hr
  rw [hd] at HRc
  clear h1 h2 hx hkl hd hr h0
  go_enter Try.func46, Try.ntmps46
  go_wp2_with (first
    | (go_at_call 62; refine (HRc.out _ (alloc_below _ _)).mono ?_; rintro e w1 ⟨rfl, hb1⟩; have HB1 := Kp.mk ((alloc_below w (.cells #[.slice A n c, .int .u64 k.seq, .int .i64 k.kind] 46)).trans (hb1.mono (alloc_below _ _).size)); have g1 := (hb1.block w.heap.size (by simp)).trans (heap_alloc_new w (.cells #[.slice A n c, .int .u64 k.seq, .int .i64 k.kind] 46)); have c0 := cells_top g1 0 _ rfl; have c1 := cells_top g1 1 _ rfl; have c2 := cells_top g1 2 _ rfl; clear hb1 g1)
    | (go_at_call 47; refine (HLo.out _ HB1.out).mono ?_; rintro e w2 ⟨A', c', rfl, h1, h2⟩; have H1 := Kp.mk h1; have H2 := Kp.mk h2; clear h1 h2))
  go_ret
  have hN := H1.out
  rw [HKl.out, HKb.out] at hN
  exact ⟨A', c', ret_sl HKl.out, hN.lower HB1.out.size, HB1.out.trans (H2.out.mono HB1.out.size)⟩
end Go.Proofs.Ytinffeffffligaa.Bas
