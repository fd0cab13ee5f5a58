import Derived.Test.YtinffeffffligaaBlH
import Derived.Deep.Slices
set_option linter.unusedVariables false
set_option linter.unusedSimpArgs false
namespace Go.Proofs.Ytinffeffffligaa.Bas
open Go.RowKit Go.Maps

theorem ret_sl {A : Option Addr} {n m c : Nat} (h : n = m) : Ending.returned (.slice A n c) = .returned (.slice A m c) := by rw [h]
/-! ### Numbers in few bytes, by both codes -/
theorem put_bits {y : Nat} (h : y < 18446744073709551616) : bits .or .u8 ((y : Int) % 256) 128 = ((y % 128 + 128 : Nat) : Int) ∧ bits .and .u64 (y : Int) 127 = ((y % 128 : Nat) : Int) ∧ bits .or .u64 ((y % 128 : Nat) : Int) 128 = ((y % 128 + 128 : Nat) : Int) := by
  refine ⟨?_, ?_, ?_⟩
  · rw [show (y : Int) % 256 = ((y % 256 : Nat) : Int) by omega, show (128 : Int) = ((128 : Nat) : Int) from rfl, or8 (by omega) (by omega), or128 (by omega)]
    omega
  · rw [show (127 : Int) = ((127 : Nat) : Int) from rfl, and64 h (by omega), and127]
  · rw [show (128 : Int) = ((128 : Nat) : Int) from rfl, or64 (by omega) (by omega), or128 (by omega)]
    omega
def PutP (xs : List Int) (x : Nat) (w : World) (e : Ending) (w' : World) : Prop :=
  ∃ A' c', e = .returned (.slice A' (xs ++ varB x).length c') ∧ Nu .u8 5 w.heap.size w' (.slice A' (xs ++ varB x).length c') (xs ++ varB x) ∧ Below w.heap.size w w'
set_option maxHeartbeats 2000000 in
set_option maxRecDepth 100000 in
theorem var_put {w : World} {A : Option Addr} {n c : Nat} {xs : List Int} (h : Rd w .u8 A n c xs) {x : Nat} (hx : x < 18446744073709551616) (hn : n ≤ 1000000000) :
    Calls Try.prog 27 #[.slice A n c, .int .u64 (x : Int)] w (PutP xs x w) := by
  have hl := h.len
  have H := Kp.mk h
  clear h
  go_enter Try.func27, Try.ntmps27
  go_wp2_with (at_builtin; go_must (refine wpList_append_new rfl (.const (.slice none 0 0)) (.tmp 6) 25 5 .u8 1 rfl Try.underlying25 Try.infoU8 (by decide) n c xs A rfl rfl H.out (by omega) ?_); intro A1 c1 w1 h1 h3; have HN := Kp.mk h1; have HB := Kp.mk h3; clear h1 h3)
  go_loopw [5, 1] (fun v i wr => ∃ (y m : Nat) (A' : Option Addr) (c' : Nat) (pre : List Int), y ≤ x ∧ i = .int .u64 (y : Nat) ∧ v = .slice A' m c' ∧ m = xs.length + pre.length ∧ m ≤ n + 10 ∧ Kp (pre ++ varB y = varB x) ∧ Kp (Nu .u8 5 w.heap.size wr (.slice A' m c') (xs ++ pre)) ∧ Kp (Below w.heap.size w wr)) (fun _ i _ => (intOf i).toNat)
  case atStart => exact ⟨x, n, A1, c1, [], Nat.le_refl _, rfl, rfl, by simp [hl], by omega, ⟨rfl⟩, ⟨by simpa using HN.out⟩, HB⟩
  case round =>
    obtain ⟨y, m, A', c', pre, hyx, rfl, rfl, hm, hmn, HV, HN, HB⟩ := hrel
    have hL : (xs ++ pre).length = m := by rw [List.length_append]; omega
    have hV10 : pre.length + (varB y).length ≤ 10 := by
      have := congrArg List.length HV.out
      rw [List.length_append] at this
      have := varB_len10 hx
      omega
    have hVp := varB_pos y
    have HL := Kp.mk hL
    have Hm := Kp.mk hm
    clear hL hm
    by_cases hy : y < 128
    · have hyu : (y : Int) % 256 = (y : Int) := by omega
      have hy8 : ¬ (128 : Int) ≤ (y : Int) := by omega
      have HF : Kp (xs ++ pre ++ [(y : Int)] = xs ++ varB x) := ⟨by rw [← HV.out, varB_small hy, List.append_assoc]⟩
      have HN2 := Kp.mk (HN.out.below (alloc_below wr (.cells #[.int .u8 (y : Int)] 5)))
      have HB2 := Kp.mk (HB.out.alloc HB.out.size (.cells #[.int .u8 (y : Int)] 5))
      clear HV hyx
      go_wp2_with (at_builtin; go_must (refine wpList_append_nu rfl (.tmp 18) (.tmp 21) 25 5 .u8 1 w.heap.size rfl Try.underlying25 Try.infoU8 (by decide) (.slice A' m c') 1 1 (xs ++ pre) [(y : Int)] (some ⟨wr.heap.size, 0, none⟩) rfl rfl HN2.out (rd_new1 _ _ _ _) (by rw [HL.out]; omega) HB2.out.size ?_); intro A2 c2 w2 h1 h2 h3; have hq := congrArg List.length HF.out; rw [List.length_append, List.length_singleton] at hq; rw [HF.out] at h1; rw [hq] at h1 ⊢; have HN3 := Kp.mk h1; have HB3 := Kp.mk (HB2.out.trans h3); clear h1 h2 h3 hq)
      go_ret
      exact ⟨A2, c2, ret_sl (by rw [List.length_append, hl]), HN3.out, HB3.out⟩
    · obtain ⟨z, hz⟩ : ∃ z : Nat, z = y % 128 + 128 := ⟨_, rfl⟩
      have hb := (put_bits (show y < 18446744073709551616 by omega)).1
      rw [← hz] at hb
      obtain ⟨q, hq⟩ : ∃ q : Nat, q = y / 128 := ⟨_, rfl⟩
      have hq1 : (y : Int) / 128 = (q : Int) := by omega
      have hqy : q < y := by omega
      have HV2 : Kp ((pre ++ [(z : Int)]) ++ varB q = varB x) := ⟨by rw [← HV.out, varB_big hy, hq, hz, List.append_assoc]; rfl⟩
      have hy8 : (128 : Int) ≤ (y : Int) := by omega
      have HN2 := Kp.mk (HN.out.below (alloc_below wr (.cells #[.int .u8 (z : Int)] 5)))
      have HB2 := Kp.mk (HB.out.alloc HB.out.size (.cells #[.int .u8 (z : Int)] 5))
      clear HV hq hz
      go_wp2_with (at_builtin; go_must (refine wpList_append_nu rfl (.tmp 12) (.tmp 16) 25 5 .u8 1 w.heap.size rfl Try.underlying25 Try.infoU8 (by decide) (.slice A' m c') 1 1 (xs ++ pre) [(z : Int)] (some ⟨wr.heap.size, 0, none⟩) rfl rfl HN2.out (rd_new1 _ _ _ _) (by rw [HL.out]; omega) HB2.out.size ?_); intro A2 c2 w2 h1 h2 h3; rw [HL.out, List.append_assoc] at h1; rw [HL.out]; have HN3 := Kp.mk h1; have HB3 := Kp.mk (HB2.out.trans h3); clear h1 h2 h3)
      go_roundw
      case rel => exact ⟨q, m + 1, A2, c2, pre ++ [(z : Int)], by omega, by go_num, rfl, by rw [List.length_append, Hm.out]; rfl, by have := Hm.out; omega, HV2, HN3, HB3⟩
      case measure => simp [intOf]; omega
set_option maxHeartbeats 2000000 in
set_option maxRecDepth 100000 in
theorem ref_put {w : World} {A : Option Addr} {n c : Nat} {xs : List Int} (h : Rd w .u8 A n c xs) {x : Nat} (hx : x < 18446744073709551616) (hn : n ≤ 1000000000) :
    Calls Try.prog 49 #[.slice A n c, .int .u64 (x : Int)] w (PutP xs x w) := by
  have hl := h.len
  have H := Kp.mk h
  clear h
  go_enter Try.func49, Try.ntmps49
  go_wp2_with (at_builtin; go_must (refine wpList_append_new rfl (.const (.slice none 0 0)) (.tmp 6) 25 5 .u8 1 rfl Try.underlying25 Try.infoU8 (by decide) n c xs A rfl rfl H.out (by omega) ?_); intro A1 c1 w1 h1 h3; have HN := Kp.mk h1; have HB := Kp.mk h3; clear h1 h3)
  go_loopw [5, 1] (fun v i wr => ∃ (y m : Nat) (A' : Option Addr) (c' : Nat) (pre : List Int), y ≤ x ∧ i = .int .u64 (y : Nat) ∧ v = .slice A' m c' ∧ m = xs.length + pre.length ∧ m ≤ n + 10 ∧ Kp (pre ++ varB y = varB x) ∧ Kp (Nu .u8 5 w.heap.size wr (.slice A' m c') (xs ++ pre)) ∧ Kp (Below w.heap.size w wr)) (fun _ i _ => (intOf i).toNat)
  case atStart => exact ⟨x, n, A1, c1, [], Nat.le_refl _, rfl, rfl, by simp [hl], by omega, ⟨rfl⟩, ⟨by simpa using HN.out⟩, HB⟩
  case round =>
    obtain ⟨y, m, A', c', pre, hyx, rfl, rfl, hm, hmn, HV, HN, HB⟩ := hrel
    have hL : (xs ++ pre).length = m := by rw [List.length_append]; omega
    have hV10 : pre.length + (varB y).length ≤ 10 := by
      have := congrArg List.length HV.out
      rw [List.length_append] at this
      have := varB_len10 hx
      omega
    have hVp := varB_pos y
    have HL := Kp.mk hL
    have Hm := Kp.mk hm
    clear hL hm
    by_cases hy : y < 128
    · have hyu : (y : Int) % 256 = (y : Int) := by omega
      have hy8 : ¬ (128 : Int) ≤ (y : Int) := by omega
      have HF : Kp (xs ++ pre ++ [(y : Int)] = xs ++ varB x) := ⟨by rw [← HV.out, varB_small hy, List.append_assoc]⟩
      have HN2 := Kp.mk (HN.out.below (alloc_below wr (.cells #[.int .u8 (y : Int)] 5)))
      have HB2 := Kp.mk (HB.out.alloc HB.out.size (.cells #[.int .u8 (y : Int)] 5))
      clear HV hyx
      go_wp2_with (at_builtin; go_must (refine wpList_append_nu rfl (.tmp 19) (.tmp 22) 25 5 .u8 1 w.heap.size rfl Try.underlying25 Try.infoU8 (by decide) (.slice A' m c') 1 1 (xs ++ pre) [(y : Int)] (some ⟨wr.heap.size, 0, none⟩) rfl rfl HN2.out (rd_new1 _ _ _ _) (by rw [HL.out]; omega) HB2.out.size ?_); intro A2 c2 w2 h1 h2 h3; have hq := congrArg List.length HF.out; rw [List.length_append, List.length_singleton] at hq; rw [HF.out] at h1; rw [hq] at h1 ⊢; have HN3 := Kp.mk h1; have HB3 := Kp.mk (HB2.out.trans h3); clear h1 h2 h3 hq)
      go_ret
      exact ⟨A2, c2, ret_sl (by rw [List.length_append, hl]), HN3.out, HB3.out⟩
    · obtain ⟨z, hz⟩ : ∃ z : Nat, z = y % 128 + 128 := ⟨_, rfl⟩
      obtain ⟨-, hb1, hb2⟩ := put_bits (show y < 18446744073709551616 by omega)
      rw [← hz] at hb2
      obtain ⟨z0, hz0⟩ : ∃ z0 : Nat, z0 = y % 128 := ⟨_, rfl⟩
      rw [← hz0] at hb1 hb2
      have hz256 : (z : Int) % 256 = (z : Int) := by omega
      clear hz0
      obtain ⟨q, hq⟩ : ∃ q : Nat, q = y / 128 := ⟨_, rfl⟩
      have hq1 : (y : Int) / 128 = (q : Int) := by omega
      have hqy : q < y := by omega
      have HV2 : Kp ((pre ++ [(z : Int)]) ++ varB q = varB x) := ⟨by rw [← HV.out, varB_big hy, hq, hz, List.append_assoc]; rfl⟩
      have hy8 : (128 : Int) ≤ (y : Int) := by omega
      have HN2 := Kp.mk (HN.out.below (alloc_below wr (.cells #[.int .u8 (z : Int)] 5)))
      have HB2 := Kp.mk (HB.out.alloc HB.out.size (.cells #[.int .u8 (z : Int)] 5))
      clear HV hq hz
      go_wp2_with (at_builtin; go_must (refine wpList_append_nu rfl (.tmp 10) (.tmp 15) 25 5 .u8 1 w.heap.size rfl Try.underlying25 Try.infoU8 (by decide) (.slice A' m c') 1 1 (xs ++ pre) [(z : Int)] (some ⟨wr.heap.size, 0, none⟩) rfl rfl HN2.out (rd_new1 _ _ _ _) (by rw [HL.out]; omega) HB2.out.size ?_); intro A2 c2 w2 h1 h2 h3; rw [HL.out, List.append_assoc] at h1; rw [HL.out]; have HN3 := Kp.mk h1; have HB3 := Kp.mk (HB2.out.trans h3); clear h1 h2 h3)
      go_roundw
      case rel => exact ⟨q, m + 1, A2, c2, pre ++ [(z : Int)], by omega, by go_num, rfl, by rw [List.length_append, Hm.out]; rfl, by have := Hm.out; omega, HV2, HN3, HB3⟩
      case measure => simp [intOf]; omega
/-- What Get tells: a number and where it ends, or that there is none. -/
def GetP (xs : List Int) (at_ : Nat) (w : World) (e : Ending) (w' : World) : Prop :=
  w' = w ∧ ((∃ x to_, e = .returned (.tuple #[.int .u64 (x : Nat), .int .i64 (to_ : Nat), .int .i64 0]) ∧ VarAt xs at_ x to_) ∨
    (∃ k : Int, k ≠ 0 ∧ e = .returned (.tuple #[.int .u64 0, .int .i64 0, .int .i64 k]) ∧ ∀ x to_, ¬ VarAt xs at_ x to_))
theorem get_bits {d x i : Nat} (hd : d < 128) (hx : x < 128 ^ i) (hi : i < 9 ∨ (i = 9 ∧ d ≤ 1)) : IntKind.u64.wrap ((d : Int) * 2 ^ (7 * i)) = ((128 ^ i * d : Nat) : Int) ∧ bits .or .u64 (x : Int) ((128 ^ i * d : Nat) : Int) = ((x + 128 ^ i * d : Nat) : Int) := by
  have e : (128 : Nat) ^ i = 2 ^ (7 * i) := by rw [show (128 : Nat) = 2 ^ 7 from rfl, ← Nat.pow_mul]
  have hlt : 128 ^ i * d < 18446744073709551616 ∧ x < 18446744073709551616 := by
    rcases hi with h | ⟨rfl, hd1⟩
    · have h3 : (128 : Nat) ^ i ≤ 128 ^ 8 := Nat.pow_le_pow_right (by omega) (by omega)
      have h4 : 128 ^ i * d ≤ 128 ^ 8 * 127 := Nat.mul_le_mul h3 (by omega)
      omega
    · have h4 : 128 ^ 9 * d ≤ 128 ^ 9 * 1 := Nat.mul_le_mul (Nat.le_refl _) hd1
      omega
  constructor
  · rw [show (d : Int) * 2 ^ (7 * i) = ((128 ^ i * d : Nat) : Int) by rw [e]; simp [Int.mul_comm]]
    exact w64 _ (Int.natCast_nonneg _) (by have := hlt.1; omega)
  · rw [or64 hlt.2 hlt.1, Nat.or_comm]
    rw [e] at hx ⊢
    rw [or_apart hx, Nat.add_comm]
theorem rd_from {w : World} {k : IntKind} {A : Option Addr} {n c a : Nat} {xs : List Int} (h : Rd w k A n c xs) (hc : n ≤ c) (ha : a ≤ n) : ∃ A', (if c = a then A else Option.map (fun x => x.add a) A) = A' ∧ Rd w k A' (n - a) (c - a) (xs.drop a) := by
  have hl := h.len
  by_cases hca : c = a
  · rw [if_pos hca]
    refine ⟨A, rfl, by rw [List.length_drop]; omega, by have := h.max; omega, fun e => by have := h.nil e; omega, fun hp => by omega⟩
  · rw [if_neg hca]
    refine ⟨_, rfl, by rw [List.length_drop]; omega, by have := h.max; omega, fun e => ?_, fun hp => ?_⟩
    · cases A with
      | none => have := h.nil rfl; omega
      | some x => simp at e
    · obtain ⟨ad, rfl, hcell⟩ := h.cell (by omega)
      refine ⟨ad.add a, rfl, fun j hj => ?_⟩
      have h1 := hcell (a + j) (by omega)
      have e : (ad.add a).add j = ad.add (a + j) := Go.Deep.add_add ad a j
      rw [e, h1]
      simp [List.getD, List.getElem?_drop]
set_option maxHeartbeats 2000000 in
set_option maxRecDepth 100000 in
theorem var_get {w : World} {A : Option Addr} {n c : Nat} {xs : List Int} (h : Rd w .u8 A n c xs) (hc : n ≤ c) (hb : Byt xs) {a : Nat} (ha : a ≤ n) :
    Calls Try.prog 70 #[.slice A n c, .int .i64 (a : Nat)] w (GetP xs a w) := by
  have hl := h.len
  have hm := h.max
  obtain ⟨A', hif, hr⟩ := rd_from h hc ha
  have H := Kp.mk hr
  have HB := Kp.mk hb
  clear h hb hr
  go_enter Try.func70, Try.ntmps70
  go_wp2_with fail
  obtain ⟨m, hmm⟩ : ∃ m, m = n - a := ⟨_, rfl⟩
  rw [← hmm] at H ⊢
  have Hmm := Kp.mk hmm
  have hlm : a + m = n := by omega
  have HLm := Kp.mk hlm
  have hdf : decide (n < a) = false := decide_eq_false (by omega)
  simp only [hdf, Bool.or_false]
  clear hif hmm hlm hdf
  go_loopw [22, 7] (fun u v wr => ∃ i x : Nat, i ≤ m ∧ i ≤ 9 ∧ u = .int .i64 i ∧ v = .int .u64 x ∧ Kp (Got xs a i x) ∧ wr = w) (fun u _ _ => m - (intOf u).toNat)
  case atStart => exact ⟨0, 0, by omega, by omega, rfl, rfl, ⟨got_none xs a⟩, rfl⟩
  case round =>
    obtain ⟨i, x, hi, hi9, rfl, rfl, HG, rfl⟩ := hrel
    by_cases hlt : i < m
    · have hai : a + i < xs.length := by have := HLm.out; omega
      obtain ⟨ad, rfl, hcell⟩ := H.out.cell (by omega)
      have x0 := hcell i hlt
      have hg : (xs.drop a).getD i 0 = xs.getD (a + i) 0 := by simp [List.getD, List.getElem?_drop]
      rw [hg] at x0
      have hbk := byt_getD HB.out (a + i)
      obtain ⟨d, hd⟩ : ∃ d : Nat, xs.getD (a + i) 0 = (d : Int) := ⟨(xs.getD (a + i) 0).toNat, by omega⟩
      rw [hd] at x0 hbk
      have HD := Kp.mk hd
      have HAI := Kp.mk hai
      have hd8 : d < 256 := by omega
      clear hg hcell hbk hd hai
      by_cases hbad9 : i = 9 ∧ 1 < d
      · obtain ⟨rfl, hd1⟩ := hbad9
        have HN := Kp.mk (HG.out.great HAI.out HD.out hd1)
        clear HG HD
        have x9 : wr.cell? ⟨ad.block, ad.off + 9, none⟩ = some (.int .u8 (d : Int)) := by simpa [Addr.add] using x0
        go_wp2_with fail
        go_ret3
        exact ⟨rfl, .inr ⟨2, by omega, rfl, HN.out⟩⟩
      · by_cases hbad0 : 0 < i ∧ d = 0
        · obtain ⟨hi0, rfl⟩ := hbad0
          have HN := Kp.mk (HG.out.zero HAI.out HD.out hi0)
          clear HG HD
          go_wp2_with fail
          all_goals (go_ret3; exact ⟨rfl, .inr ⟨2, by omega, rfl, HN.out⟩⟩)
        · have hz1 : i < 9 ∨ (i = 9 ∧ d ≤ 1) := by omega
          have hz2 : i = 0 ∨ d ≠ 0 := by omega
          have h3 : i ≤ 0 ∨ (0 < i ∧ i < 9 ∧ ((d : Int) == 0) = false) ∨ (9 ≤ i ∧ decide ((1 : Int) < (d : Int)) = false ∧ ((d : Int) == 0) = false ∧ ((i : Int) == 9) = true) := by
            by_cases h4 : i ≤ 0
            · exact .inl h4
            · have h5 : ((d : Int) == 0) = false := by simp; omega
              by_cases h6 : i < 9
              · exact .inr (.inl ⟨by omega, h6, h5⟩)
              · exact .inr (.inr ⟨by omega, by simp; omega, h5, by simp; omega⟩)
          have hxl := HG.out.lt
          obtain ⟨s, hs⟩ : ∃ s : Nat, s = 7 * i := ⟨_, rfl⟩
          have hw : IntKind.i64.wrap ((7 : Int) * (i : Int)) = (s : Int) := (IntWalk.i64_in _ (by omega)).trans (by omega)
          have hs64 : s < 64 := by omega
          have hwa : IntKind.i64.wrap ((a : Int) + (i : Int)) = ((a + i : Nat) : Int) := (IntWalk.i64_in _ (by have := HLm.out; omega)).trans (by omega)
          have hwb : IntKind.i64.wrap (((a + i : Nat) : Int) + 1) = ((a + i + 1 : Nat) : Int) := (IntWalk.i64_in _ (by have := HLm.out; omega)).trans (by omega)
          have hand : bits .and .u8 (d : Int) 127 = ((d % 128 : Nat) : Int) := by rw [show (127 : Int) = ((127 : Nat) : Int) from rfl, and8 hd8 (by omega), and127]
          obtain ⟨f, hf⟩ : ∃ f : Nat, f = d % 128 := ⟨_, rfl⟩
          have hgb := get_bits (d := f) (x := x) (i := i) (by omega) hxl (by omega)
          rw [← hs] at hgb
          obtain ⟨hg1, hg2⟩ := hgb
          rw [← hf] at hand
          have hf64 : (f : Int) % 18446744073709551616 = (f : Int) := by omega
          obtain ⟨p, hp⟩ : ∃ p : Nat, p = 128 ^ i * f := ⟨_, rfl⟩
          obtain ⟨y, hy⟩ : ∃ y : Nat, y = x + p := ⟨_, rfl⟩
          rw [← hp] at hg1 hg2
          rw [← hy] at hg2
          have hg1' : (f : Int) * 2 ^ s % 18446744073709551616 = (p : Int) := by rw [← wrap_u64]; exact hg1
          by_cases hend : d < 128
          · have hfd : f = d := by omega
            have HV := Kp.mk (HG.out.done HAI.out HD.out hend hz2 hz1)
            rw [← hfd, ← hp, ← hy] at HV
            clear HG HD hs hf hp hy hz1 hz2 hxl hfd hbad9 hbad0
            rcases h3 with h3 | ⟨h3, h4, h5⟩ | ⟨h3, h4, h5, h6⟩
            all_goals
              go_wp2_with fail
              go_ret3
              exact ⟨rfl, .inl ⟨y, a + i + 1, rfl, HV.out⟩⟩
          · have HG2 := Kp.mk (HG.out.more HAI.out (by rw [HD.out, hf]; omega) (show f < 128 by omega))
            rw [← hp, ← hy] at HG2
            have hi8 : i + 1 ≤ 9 := by omega
            clear HG HD hs hf hp hy hz1 hz2 hxl hbad9 hbad0
            rcases h3 with h3 | ⟨h3, h4, h5⟩ | ⟨h3, h4, h5, h6⟩
            all_goals try (exfalso; omega)
            all_goals
              go_wp2_with fail
              go_roundw
              case rel => exact ⟨i + 1, y, by omega, hi8, by go_num, rfl, HG2, by first | rfl | trivial⟩
              case measure => simp [intOf]; omega
    · obtain rfl : m = i := by omega
      have HN := Kp.mk (HG.out.short (by have := HLm.out; omega))
      clear HG
      go_wp2_with fail
      go_ret3
      exact ⟨rfl, .inr ⟨4, by omega, rfl, HN.out⟩⟩
end Go.Proofs.Ytinffeffffligaa.Bas
