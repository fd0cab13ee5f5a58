import Derived.Test.YtinffeffffligaaBlK
set_option linter.unusedVariables false
set_option linter.unusedSimpArgs false
namespace Go.Proofs.Ytinffeffffligaa.Bas
open Go.RowKit Go.Maps

/-! ### The reference's number of so many bytes -/
theorem numB_step {xs : List Int} {a q m : Nat} (hq : q < m) (ha : a + m ≤ xs.length) : numB ((xs.drop (a + q)).take (m - q)) = (xs.getD (a + q) 0).toNat + 256 * numB ((xs.drop (a + (q + 1))).take (m - (q + 1))) := by
  rw [drop_getD (show a + q < xs.length by omega), show m - q = (m - (q + 1)) + 1 by omega, List.take_succ_cons, numB_cons, Nat.add_assoc]
theorem numB_at_lt {xs : List Int} (hb : Byt xs) (a m : Nat) : numB ((xs.drop a).take m) < 256 ^ m := by
  have h1 := numB_lt (byt_take (byt_drop hb a) m)
  refine Nat.lt_of_lt_of_le h1 (Nat.pow_le_pow_right (by omega) ?_)
  rw [List.length_take]; omega
theorem shl_bits {y d : Nat} (hy : y < 72057594037927936) (hd : d < 256) : IntKind.u64.wrap ((y : Int) * 256) = ((256 * y : Nat) : Int) ∧ bits .or .u64 ((256 * y : Nat) : Int) (d : Int) = ((d + 256 * y : Nat) : Int) := by
  constructor
  · rw [wrap_u64]; omega
  · rw [or64 (by omega) (by omega), show 256 * y = 2 ^ 8 * y from rfl, or_apart (by omega)]; omega
set_option maxHeartbeats 2000000 in
set_option maxRecDepth 100000 in
theorem ref_getn {w : World} {A : Option Addr} {n c : Nat} {xs : List Int} (h : Rd w .u8 A n c xs) (hb : Byt xs) {a m : Nat} (ha : a + m ≤ n) (hm8 : m ≤ 8) :
    Calls Try.prog 37 #[.slice A n c, .int .i64 (a : Nat), .int .i64 (m : Nat)] w fun e w' => e = .returned (.int .u64 ((numB ((xs.drop a).take m) : Nat) : Int)) ∧ w' = w := by
  have hl := h.len
  have hm := h.max
  have H := Kp.mk h
  have HB := Kp.mk hb
  clear h hb
  go_enter Try.func37, Try.ntmps37
  go_wp2_with fail
  go_loopw [8, 7] (fun u v wr => ∃ (j y : Nat) (z : Int), j ≤ m ∧ u = .int .i64 z ∧ z + 1 = (j : Int) ∧ v = .int .u64 y ∧ Kp (y = numB ((xs.drop (a + j)).take (m - j))) ∧ wr = w) (fun u _ _ => (intOf u + 1).toNat)
  case atStart => exact ⟨m, 0, (m : Int) - 1, Nat.le_refl _, rfl, by omega, rfl, ⟨by rw [Nat.sub_self]; rfl⟩, rfl⟩
  case round =>
    obtain ⟨j, y, z, hj, rfl, hz, rfl, Hy, rfl⟩ := hrel
    by_cases h0 : j = 0
    · have hz0 : z < 0 := by omega
      have HE : Kp (numB ((xs.drop a).take m) = y) := ⟨by rw [Hy.out, h0]; rfl⟩
      clear Hy hz h0
      go_wp2_with fail
      go_ret
      exact ⟨ret_int (by rw [HE.out]), rfl⟩
    · obtain ⟨q, hq⟩ : ∃ q, j = q + 1 := ⟨j - 1, by omega⟩
      have hzq : z = (q : Int) := by omega
      subst hzq
      have hqm : q < m := by omega
      obtain ⟨p, hp⟩ : ∃ p : Nat, p = a + q := ⟨_, rfl⟩
      have hwa : IntKind.i64.wrap ((a : Int) + (q : Int)) = (p : Int) := (IntWalk.i64_in _ (by omega)).trans (by omega)
      have hpn : p < n := by omega
      obtain ⟨ad, rfl, hcell⟩ := H.out.cell (by omega)
      have x0 := hcell p hpn
      have hbk := byt_getD HB.out p
      obtain ⟨d, hd⟩ : ∃ d : Nat, xs.getD p 0 = (d : Int) := ⟨(xs.getD p 0).toNat, by omega⟩
      rw [hd] at x0 hbk
      have hd8 : d < 256 := by omega
      have hd64 : (d : Int) % 18446744073709551616 = (d : Int) := by omega
      have hylt : y < 72057594037927936 := by
        have h1 := numB_at_lt HB.out (a + j) (m - j)
        have h2 : (256 : Nat) ^ (m - j) ≤ 256 ^ 7 := Nat.pow_le_pow_right (by omega) (by omega)
        rw [← Hy.out] at h1
        omega
      obtain ⟨s1, s2⟩ := shl_bits hylt hd8
      obtain ⟨t, ht⟩ : ∃ t : Nat, t = 256 * y := ⟨_, rfl⟩
      obtain ⟨r, hr⟩ : ∃ r : Nat, r = d + 256 * y := ⟨_, rfl⟩
      have HS : Kp (r = numB ((xs.drop (a + q)).take (m - q))) := ⟨by rw [numB_step hqm (by omega), ← hp, hd, hr, Hy.out, hq]; rfl⟩
      rw [← hr, ← ht] at s2
      rw [← ht] at s1
      have s3 : (y : Int) * 256 % 18446744073709551616 = (t : Int) := by rw [← wrap_u64]; exact s1
      clear hcell hbk hd ht hr hp Hy hylt hz hq h0
      go_wp2_with fail
      go_roundw
      case rel => exact ⟨q, r, (q : Int) - 1, by omega, by go_num, by omega, rfl, HS, by first | rfl | trivial⟩
      case measure => simp [intOf]
end Go.Proofs.Ytinffeffffligaa.Bas
