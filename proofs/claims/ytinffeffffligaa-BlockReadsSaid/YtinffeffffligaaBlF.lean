import Derived.Test.YtinffeffffligaaBlE
set_option linter.unusedVariables false
set_option linter.unusedSimpArgs false
namespace Go.Proofs.Ytinffeffffligaa.Bas
open Go.RowKit Go.Maps

/-! ### The sum of bytes, by both codes -/
theorem step_odd {y : Nat} (h : y < 4294967296) (h1 : y % 2 = 1) : bits .and .u32 (y : Int) 1 = 1 ∧ bits .xor .u32 ((y : Int) / 2) 2197175160 = (stepN y : Int) := by
  constructor
  · rw [show (1 : Int) = ((1 : Nat) : Int) from rfl, and32 h (by omega), and1, h1]
  · rw [show (y : Int) / 2 = ((y / 2 : Nat) : Int) by omega, show (2197175160 : Int) = ((2197175160 : Nat) : Int) from rfl, xor32 (by omega) (by omega)]
    unfold stepN
    rw [if_pos h1]
theorem step_even {y : Nat} (h : y < 4294967296) (h1 : ¬ y % 2 = 1) : bits .and .u32 (y : Int) 1 = 0 ∧ (y : Int) / 2 = (stepN y : Int) := by
  constructor
  · rw [show (1 : Int) = ((1 : Nat) : Int) from rfl, and32 h (by omega), and1]; omega
  · unfold stepN
    rw [if_neg h1]; omega
set_option maxHeartbeats 1000000 in
set_option maxRecDepth 100000 in
theorem ref_step (w : World) {x : Nat} (h : x < 4294967296) : Calls Try.prog 64 #[.int .u32 (x : Int)] w fun e w' => e = .returned (.int .u32 (tabN x : Int)) ∧ w' = w := by
  go_enter Try.func64, Try.ntmps64
  go_wp2_with fail
  go_loopw [3, 0] (fun i v wr => ∃ k y : Nat, k ≤ 8 ∧ i = .int .i64 k ∧ v = .int .u32 y ∧ Kp (y = stepsN k x) ∧ wr = w) (fun i _ _ => 8 - (intOf i).toNat)
  case atStart => exact ⟨0, x, by omega, rfl, rfl, ⟨rfl⟩, rfl⟩
  case round =>
    obtain ⟨k, y, hk, rfl, rfl, Hy, rfl⟩ := hrel
    have hlt : y < 4294967296 := by rw [Hy.out]; exact stepsN_lt h k
    by_cases hk8 : k < 8
    · have HS : Kp (stepN y = stepsN (k + 1) x) := ⟨by rw [Hy.out]; rfl⟩
      by_cases h1 : y % 2 = 1
      · obtain ⟨e1, e2⟩ := step_odd hlt h1
        obtain ⟨z, hz⟩ : ∃ z, z = stepN y := ⟨_, rfl⟩
        rw [← hz] at e2 HS
        clear hz h1
        go_wp2_with fail
        go_roundw
        case rel => exact ⟨k + 1, z, by omega, by go_num, rfl, HS, by first | rfl | trivial⟩
        case measure => simp [intOf]; omega
      · obtain ⟨e1, e2⟩ := step_even hlt h1
        obtain ⟨z, hz⟩ : ∃ z, z = stepN y := ⟨_, rfl⟩
        rw [← hz] at e2 HS
        clear hz h1
        go_wp2_with fail
        go_roundw
        case rel => exact ⟨k + 1, z, by omega, by go_num, rfl, HS, by first | rfl | trivial⟩
        case measure => simp [intOf]; omega
    · obtain rfl : k = 8 := by omega
      have HE : Kp (y = tabN x) := ⟨Hy.out⟩
      clear Hy
      go_wp2_with fail
      go_ret
      exact ⟨ret_int (by rw [HE.out]), rfl⟩
theorem crc_bits {y c : Nat} (hy : y < 4294967296) (hc : c < 256) : bits .xor .u32 (y : Int) (c : Int) = ((y ^^^ c : Nat) : Int) ∧ bits .and .u32 ((y ^^^ c : Nat) : Int) 255 = ((y % 256 ^^^ c : Nat) : Int) ∧
    bits .xor .u8 ((y : Int) % 256) (c : Int) = ((y % 256 ^^^ c : Nat) : Int) ∧ y % 256 ^^^ c < 256 ∧ bits .xor .u32 ((y : Int) / 256) ((tabN (y % 256 ^^^ c) : Nat) : Int) = ((crcF y (c : Int) : Nat) : Int) := by
  have hq : y % 256 ^^^ c < 256 := Nat.xor_lt_two_pow (n := 8) (by omega) (by omega)
  refine ⟨xor32 hy (by omega), ?_, ?_, hq, ?_⟩
  · rw [show (255 : Int) = ((255 : Nat) : Int) from rfl, and32 (Nat.xor_lt_two_pow (n := 32) (by omega) (by omega)) (by omega), and255]
    have := Nat.xor_mod_two_pow (a := y) (b := c) (n := 8)
    rw [show (2 : Nat) ^ 8 = 256 from rfl, Nat.mod_eq_of_lt hc] at this
    rw [this]
  · rw [show (y : Int) % 256 = ((y % 256 : Nat) : Int) by omega]
    exact xor8 (by omega) hc
  · rw [show (y : Int) / 256 = ((y / 256 : Nat) : Int) by omega, xor32 (by omega) (tabN_lt hq)]
    unfold crcF
    rw [Int.toNat_natCast]
set_option maxHeartbeats 1000000 in
set_option maxRecDepth 100000 in
theorem ref_crc {w : World} {A : Option Addr} {n c : Nat} {xs : List Int} (h : Rd w .u8 A n c xs) (hb : Byt xs) : Calls Try.prog 55 #[.slice A n c] w fun e w' => e = .returned (.int .u32 (crcN xs : Int)) ∧ w' = w := by
  have hm := h.max
  have hl := h.len
  have H := Kp.mk h
  have HB := Kp.mk hb
  clear h hb
  go_enter Try.func55, Try.ntmps55
  go_wp2_with fail
  go_loopw [4, 3] (fun i v wr => ∃ k y : Nat, k ≤ n ∧ i = .int .i64 k ∧ v = .int .u32 y ∧ Kp (y = crcS (xs.take k)) ∧ wr = w) (fun i _ _ => n - (intOf i).toNat)
  case atStart => exact ⟨0, 4294967295, by omega, rfl, rfl, ⟨rfl⟩, rfl⟩
  case round =>
    obtain ⟨k, y, hk, rfl, rfl, Hy, rfl⟩ := hrel
    have hy : y < 4294967296 := by rw [Hy.out]; exact crcS_lt (fun x hx => HB.out x (List.mem_of_mem_take hx))
    by_cases hlt : k < n
    · obtain ⟨ad, rfl, hc⟩ := H.out.cell (by omega)
      have x0 := hc k hlt
      have hbk := byt_getD HB.out k
      obtain ⟨d, hd⟩ : ∃ d : Nat, xs.getD k 0 = (d : Int) := ⟨(xs.getD k 0).toNat, by omega⟩
      have HS := Kp.mk (crcS_step (xs := xs) (k := k) (by omega))
      rw [← Hy.out, hd] at HS
      rw [hd] at x0 hbk
      have hd8 : d < 256 := by omega
      obtain ⟨f1, f2, f3, hq, f4⟩ := crc_bits hy hd8
      have hd32 : (d : Int) % 4294967296 = (d : Int) := by omega
      obtain ⟨p, hp⟩ : ∃ p : Nat, p = y ^^^ d := ⟨_, rfl⟩
      obtain ⟨q, hqq⟩ : ∃ q : Nat, q = y % 256 ^^^ d := ⟨_, rfl⟩
      obtain ⟨z, hz⟩ : ∃ z : Nat, z = crcF y (d : Int) := ⟨_, rfl⟩
      rw [← hp] at f1 f2
      rw [← hqq] at f2 f4 hq
      rw [← hz] at f4 HS
      have HT := Kp.mk (fun W => ref_step W (x := q) (by omega))
      obtain ⟨t, ht⟩ : ∃ t : Nat, t = tabN q := ⟨_, rfl⟩
      rw [← ht] at f4 HT
      clear hc hd f3 hp hqq hz ht hbk
      go_wp2_with ((go_at_call 64; refine (HT.out _).mono ?_; rintro e w1 ⟨rfl, hw1⟩; subst hw1))
      go_roundw
      case rel => exact ⟨k + 1, z, by omega, by go_num, rfl, ⟨HS.out.symm⟩, by first | rfl | trivial⟩
      case measure => simp [intOf]; omega
    · obtain rfl : n = k := by omega
      have HE : Kp (crcS xs = y) := ⟨by rw [Hy.out, ← hl, List.take_length]⟩
      have hx : bits .xor .u32 IntKind.u32.max (y : Int) = ((4294967295 ^^^ y : Nat) : Int) := xor32 (a := 4294967295) (by omega) hy
      generalize hg : (4294967295 ^^^ y : Nat) = m at hx
      clear Hy
      go_wp2_with fail
      go_ret
      exact ⟨ret_int (by unfold crcN; rw [HE.out, hg]), rfl⟩
/-! ### The code's table and sum -/
theorem Try.infoU32 : (Try.prog.info? 63).map (fun i => (i.zero, i.size, i.bytes)) = some (some (.int .u32 0), 1, 4) := by kernel_rfl
theorem make_u32 (W : World) (n : Nat) (hn : n ≤ 1000000) : (Instr.makeSlice 61 (.int .i64 (n : Int)) (.int .i64 (n : Int))).run Try.prog W = .ok (.slice (some ⟨W.heap.size, 0, none⟩) n n) (W.alloc (.cells (madeCells #[.int .u32 0] n) 63)) := by
  obtain ⟨i0, hi, hz0, hz1, hz2⟩ := info_parts Try.infoU32
  have := run_makeSlice (P := Try.prog) W 61 63 i0 (.int .u32 0) Try.underlying61 hi hz0 .i64 .i64 (n : Int) (n : Int) (by omega) (Int.le_refl _) (by rw [hz1]; omega) (by rw [hz2]; omega) (by omega)
  rw [hz1, Nat.mul_one] at this
  exact this
/-- The first k numbers of the table stand in a row of the call's own. -/
structure Tb (W : World) (g k : Nat) : Prop where
  out : ∃ cs : Array Value, W.heap[g]? = some (.cells cs 63 (0, 0)) ∧ cs.size = 256 ∧ (∀ i, i < k → cs[i]? = some (.int .u32 (tabN i))) ∧ ∀ i, k ≤ i → i < 256 → cs[i]? = some (.int .u32 0)
theorem Tb.cell {W : World} {g k : Nat} (h : Tb W g k) (hk : k < 256) : W.cell? ⟨g, k, none⟩ = some (.int .u32 0) ∧ W.frozen? ⟨g, k, none⟩ = false := by
  obtain ⟨cs, h1, h2, h3, h4⟩ := h.out
  exact ⟨cells_top h1 k _ (h4 k (Nat.le_refl _) hk), free_top h1 k⟩
theorem Tb.put {W : World} {g k : Nat} (h : Tb W g k) (hk : k < 256) : Tb (W.setCell ⟨g, k, none⟩ (.int .u32 (tabN k))) g (k + 1) := by
  obtain ⟨cs, h1, h2, h3, h4⟩ := h.out
  refine ⟨_, heap_setCell_same _ _ k _ _ (.int .u32 (tabN k)) h1, by simp [h2], fun i hi => ?_, fun i hi hi2 => ?_⟩
  · simp only [Array.set!_eq_setIfInBounds, Array.getElem?_setIfInBounds]
    by_cases e : k = i
    · subst e; simp [h2, hk]
    · rw [if_neg e]; exact h3 i (by omega)
  · simp only [Array.set!_eq_setIfInBounds, Array.getElem?_setIfInBounds]
    rw [if_neg (by omega)]; exact h4 i (by omega) hi2
theorem Tb.rd {W : World} {g : Nat} (h : Tb W g 256) : Rd W .u32 (some ⟨g, 0, none⟩) 256 256 tabL := by
  obtain ⟨cs, h1, h2, h3, h4⟩ := h.out
  refine ⟨tabL_len, by omega, (fun e => by cases e), fun _ => ⟨_, rfl, fun j hj => ?_⟩⟩
  rw [Addr.add_lit, Nat.zero_add, tabL_get hj]
  exact cells_top h1 j _ (h3 j hj)
theorem tb_new (W : World) : Tb (W.alloc (.cells (madeCells #[.int .u32 0] 256) 63)) W.heap.size 0 :=
  ⟨_, heap_alloc_new W _, by rw [size_madeCells], (fun i hi => by omega), fun i _ hi => by simp [madeCells, hi, Nat.mod_one]⟩
set_option maxHeartbeats 2000000 in
set_option maxRecDepth 100000 in
theorem crc_table (w : World) : Calls Try.prog 31 #[] w fun e w' => ∃ g, e = .returned (.slice (some ⟨g, 0, none⟩) 256 256) ∧ Rd w' .u32 (some ⟨g, 0, none⟩) 256 256 tabL ∧ Below w.heap.size w w' := by
  have hmk : (Instr.makeSlice 61 (.int .i64 256) (.int .i64 256)).run Try.prog w = .ok (.slice (some ⟨w.heap.size, 0, none⟩) 256 256) (w.alloc (.cells (madeCells #[.int .u32 0] 256) 63)) := make_u32 w 256 (by omega)
  have HT := Kp.mk (tb_new w)
  go_enter Try.func31, Try.ntmps31
  go_wp2_with fail
  obtain ⟨W1, hW1⟩ : ∃ W1, W1 = w.alloc (.cells (madeCells #[.int .u32 0] 256) 63) := ⟨_, rfl⟩
  obtain ⟨g, hg⟩ : ∃ g, g = w.heap.size := ⟨_, rfl⟩
  have HB : Kp (Below w.heap.size w W1) := ⟨by rw [hW1]; exact alloc_below _ _⟩
  have Hg : Kp (w.heap.size ≤ g) := ⟨by omega⟩
  rw [← hW1, ← hg] at HT
  rw [← hW1, ← hg]
  clear hW1 hg hmk
  go_loopw [8] (fun i wr => ∃ k : Nat, k ≤ 256 ∧ i = .int .i64 k ∧ Kp (Tb wr g k) ∧ Kp (Below w.heap.size w wr)) (fun i _ => 256 - (intOf i).toNat)
  case atStart => exact ⟨0, by omega, rfl, HT, HB⟩
  case round =>
    obtain ⟨k, hk, rfl, HT, HB⟩ := hrel
    by_cases hlt : k < 256
    · have hk32 : (k : Int) % 4294967296 = (k : Int) := by omega
      obtain ⟨c0, f0⟩ := HT.out.cell hlt
      go_wp2_with fail
      go_loopw [13, 3] (fun i v w2 => ∃ j y : Nat, j ≤ 8 ∧ i = .int .i64 j ∧ v = .int .u32 y ∧ Kp (y = stepsN j k) ∧ w2 = wr) (fun i _ _ => 8 - (intOf i).toNat)
      case atStart => exact ⟨0, k, by omega, rfl, rfl, ⟨rfl⟩, rfl⟩
      case round =>
        obtain ⟨j, y, hj, rfl, rfl, Hy, rfl⟩ := hrel
        have hy : y < 4294967296 := by rw [Hy.out]; exact stepsN_lt (by omega) j
        by_cases hj8 : j < 8
        · have HS : Kp (stepN y = stepsN (j + 1) k) := ⟨by rw [Hy.out]; rfl⟩
          by_cases h1 : y % 2 = 1
          · obtain ⟨e1, e2⟩ := step_odd hy h1
            obtain ⟨z, hz⟩ : ∃ z, z = stepN y := ⟨_, rfl⟩
            rw [← hz] at e2 HS
            clear hz h1
            go_wp2_with fail
            go_roundw
            case rel => exact ⟨j + 1, z, by omega, by go_num, rfl, HS, by first | rfl | trivial⟩
            case measure => simp [intOf]; omega
          · obtain ⟨e1, e2⟩ := step_even hy h1
            obtain ⟨z, hz⟩ : ∃ z, z = stepN y := ⟨_, rfl⟩
            rw [← hz] at e2 HS
            clear hz h1
            go_wp2_with fail
            go_roundw
            case rel => exact ⟨j + 1, z, by omega, by go_num, rfl, HS, by first | rfl | trivial⟩
            case measure => simp [intOf]; omega
        · obtain rfl : j = 8 := by omega
          have hyt : y = tabN k := Hy.out
          have HP := Kp.mk (HT.out.put hlt)
          rw [← hyt] at HP
          have HBp : Kp (Below w.heap.size w (wr.setCell ⟨g, k, none⟩ (.int .u32 y))) := ⟨HB.out.trans (((Fr.refl wr (fun q => q = g)).setCell (a := ⟨g, k, none⟩) (.inl rfl) _).toBelow (fun q hq => by rw [hq]; exact Hg.out) HB.out.size)⟩
          clear Hy hyt HT HB
          go_wp2_with fail
          go_roundw
          case rel => exact ⟨k + 1, by omega, by go_num, HP, HBp⟩
          case measure => simp [intOf]; omega
    · obtain rfl : k = 256 := by omega
      have HR := Kp.mk HT.out.rd
      go_wp2_with fail
      go_ret
      exact ⟨g, rfl, HR.out, HB.out⟩
set_option maxHeartbeats 2000000 in
set_option maxRecDepth 100000 in
theorem crc_sum {w : World} {T A : Option Addr} {c n d : Nat} {xs : List Int} (ht : Rd w .u32 T 256 c tabL) (h : Rd w .u8 A n d xs) (hb : Byt xs) : Calls Try.prog 30 #[.slice T 256 c, .slice A n d] w fun e w' => e = .returned (.int .u32 (crcN xs : Int)) ∧ w' = w := by
  have hm := h.max
  have hl := h.len
  have H := Kp.mk h
  have HB := Kp.mk hb
  obtain ⟨ta, rfl, htc⟩ := ht.cell (by omega)
  have HTc := Kp.mk htc
  clear h hb ht htc
  go_enter Try.func30, Try.ntmps30
  go_wp2_with fail
  go_loopw [14, 5] (fun i v wr => ∃ k y : Nat, k ≤ n ∧ i = .int .i64 k ∧ v = .int .u32 y ∧ Kp (y = crcS (xs.take k)) ∧ wr = w) (fun i _ _ => n - (intOf i).toNat)
  case atStart => exact ⟨0, 4294967295, by omega, rfl, rfl, ⟨rfl⟩, rfl⟩
  case round =>
    obtain ⟨k, y, hk, rfl, rfl, Hy, rfl⟩ := hrel
    have hy : y < 4294967296 := by rw [Hy.out]; exact crcS_lt (fun x hx => HB.out x (List.mem_of_mem_take hx))
    by_cases hlt : k < n
    · obtain ⟨ad, rfl, hc⟩ := H.out.cell (by omega)
      have x0 := hc k hlt
      have hbk := byt_getD HB.out k
      obtain ⟨d', hd⟩ : ∃ d : Nat, xs.getD k 0 = (d : Int) := ⟨(xs.getD k 0).toNat, by omega⟩
      have HS := Kp.mk (crcS_step (xs := xs) (k := k) (by omega))
      rw [← Hy.out, hd] at HS
      rw [hd] at x0 hbk
      have hd8 : d' < 256 := by omega
      obtain ⟨f1, f2, f3, hq, f4⟩ := crc_bits hy hd8
      obtain ⟨q, hqq⟩ : ∃ q : Nat, q = y % 256 ^^^ d' := ⟨_, rfl⟩
      obtain ⟨z, hz⟩ : ∃ z : Nat, z = crcF y (d' : Int) := ⟨_, rfl⟩
      rw [← hqq] at f3 f4 hq
      rw [← hz] at f4 HS
      have t0 := HTc.out q hq
      rw [tabL_get hq] at t0
      obtain ⟨t, ht⟩ : ∃ t : Nat, t = tabN q := ⟨_, rfl⟩
      rw [← ht] at f4 t0
      clear hc hd f1 f2 hqq hz ht hbk
      go_wp2_with fail
      go_roundw
      case rel => exact ⟨k + 1, z, by omega, by go_num, rfl, ⟨HS.out.symm⟩, by first | rfl | trivial⟩
      case measure => simp [intOf]; omega
    · obtain rfl : n = k := by omega
      have HE : Kp (crcS xs = y) := ⟨by rw [Hy.out, ← hl, List.take_length]⟩
      have hx : bits .xor .u32 IntKind.u32.max (y : Int) = ((4294967295 ^^^ y : Nat) : Int) := xor32 (a := 4294967295) (by omega) hy
      generalize hg : (4294967295 ^^^ y : Nat) = m at hx
      clear Hy
      go_wp2_with fail
      go_ret
      exact ⟨ret_int (by unfold crcN; rw [HE.out, hg]), rfl⟩
end Go.Proofs.Ytinffeffffligaa.Bas
