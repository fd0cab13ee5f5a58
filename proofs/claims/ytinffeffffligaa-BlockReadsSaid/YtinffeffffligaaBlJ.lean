import Derived.Test.YtinffeffffligaaBlI
set_option linter.unusedVariables false
set_option linter.unusedSimpArgs false
namespace Go.Proofs.Ytinffeffffligaa.Bas
open Go.RowKit Go.Maps

set_option maxHeartbeats 2000000 in
set_option maxRecDepth 100000 in
theorem ref_get {w : World} {A : Option Addr} {n c : Nat} {xs : List Int} (h : Rd w .u8 A n c xs) (hb : Byt xs) {a : Nat} (ha : a ≤ n) :
    Calls Try.prog 56 #[.slice A n c, .int .i64 (a : Nat)] w (GetP xs a w) := by
  have hl := h.len
  have hm := h.max
  have H := Kp.mk h
  have HB := Kp.mk hb
  clear h hb
  go_enter Try.func56, Try.ntmps56
  go_wp2_with fail
  obtain ⟨m, hmm⟩ : ∃ m, m = n - a := ⟨_, rfl⟩
  have hlm : a + m = n := by omega
  have HLm := Kp.mk hlm
  have hdf : decide (n < a) = false := decide_eq_false (by omega)
  simp only [hdf, Bool.or_false]
  clear hmm hlm hdf
  go_loopw [8, 7] (fun u v wr => ∃ i x : Nat, i ≤ m ∧ i ≤ 9 ∧ u = .int .i64 i ∧ v = .int .u64 x ∧ Kp (Got xs a i x) ∧ wr = w) (fun u _ _ => m - (intOf u).toNat)
  case atStart => exact ⟨0, 0, by omega, by omega, rfl, rfl, ⟨got_none xs a⟩, rfl⟩
  case round =>
    obtain ⟨i, x, hi, hi9, rfl, rfl, HG, rfl⟩ := hrel
    obtain ⟨q, hq⟩ : ∃ q : Nat, q = a + i := ⟨_, rfl⟩
    have hwa : IntKind.i64.wrap ((a : Int) + (i : Int)) = (q : Int) := (IntWalk.i64_in _ (by have := HLm.out; omega)).trans (by omega)
    by_cases hlt : i < m
    · have hai : a + i < xs.length := by have := HLm.out; omega
      have hqn : q < n := by have := HLm.out; omega
      have hqz : ¬ n ≤ q := by omega
      obtain ⟨ad, rfl, hcell⟩ := H.out.cell (by omega)
      have x0 := hcell q hqn
      rw [hq] at x0
      have hbk := byt_getD HB.out (a + i)
      obtain ⟨d, hd⟩ : ∃ d : Nat, xs.getD (a + i) 0 = (d : Int) := ⟨(xs.getD (a + i) 0).toNat, by omega⟩
      rw [hd, ← hq] at x0
      rw [hd] at hbk
      have HD := Kp.mk hd
      have HAI := Kp.mk hai
      have HQ := Kp.mk hq
      have hd8 : d < 256 := by omega
      clear hcell hbk hd hai hq
      by_cases hbad9 : i = 9 ∧ 1 < d
      · have HN : Kp (∀ x to_, ¬ VarAt xs a x to_) := ⟨by obtain ⟨rfl, hd1⟩ := hbad9; exact HG.out.great HAI.out HD.out hd1⟩
        have h6 : ((i : Int) == 9) = true := by simp; omega
        have h4 : decide ((1 : Int) < (d : Int)) = true := by simp; omega
        clear HG HD hbad9
        go_wp2_with fail
        go_ret3
        exact ⟨rfl, .inr ⟨2, by omega, rfl, HN.out⟩⟩
      · by_cases hbad0 : 0 < i ∧ d = 0
        · obtain ⟨hi0, rfl⟩ := hbad0
          have HN := Kp.mk (HG.out.zero HAI.out HD.out hi0)
          clear HG HD
          go_wp2_with fail
          all_goals (go_ret3; exact ⟨rfl, .inr ⟨2, by omega, rfl, HN.out⟩⟩)
        · have hz1 : i < 9 ∨ (i = 9 ∧ d ≤ 1) := by omega
          have hz2 : i = 0 ∨ d ≠ 0 := by omega
          have h3 : i ≤ 0 ∨ (0 < i ∧ i < 9 ∧ ((d : Int) == 0) = false) ∨ (9 ≤ i ∧ decide ((1 : Int) < (d : Int)) = false ∧ ((d : Int) == 0) = false ∧ ((i : Int) == 9) = true) := by
            by_cases h4 : i ≤ 0
            · exact .inl h4
            · have h5 : ((d : Int) == 0) = false := by simp; omega
              by_cases h6 : i < 9
              · exact .inr (.inl ⟨by omega, h6, h5⟩)
              · exact .inr (.inr ⟨by omega, by simp; omega, h5, by simp; omega⟩)
          have hxl := HG.out.lt
          obtain ⟨s, hs⟩ : ∃ s : Nat, s = 7 * i := ⟨_, rfl⟩
          have hw : IntKind.i64.wrap ((7 : Int) * (i : Int)) = (s : Int) := (IntWalk.i64_in _ (by omega)).trans (by omega)
          have hs64 : s < 64 := by omega
          have hwb : IntKind.i64.wrap ((q : Int) + 1) = ((q + 1 : Nat) : Int) := (IntWalk.i64_in _ (by have := HLm.out; omega)).trans (by omega)
          have hand : bits .and .u8 (d : Int) 127 = ((d % 128 : Nat) : Int) := by rw [show (127 : Int) = ((127 : Nat) : Int) from rfl, and8 hd8 (by omega), and127]
          obtain ⟨f, hf⟩ : ∃ f : Nat, f = d % 128 := ⟨_, rfl⟩
          have hgb := get_bits (d := f) (x := x) (i := i) (by omega) hxl (by omega)
          rw [← hs] at hgb
          obtain ⟨hg1, hg2⟩ := hgb
          rw [← hf] at hand
          have hf64 : (f : Int) % 18446744073709551616 = (f : Int) := by omega
          obtain ⟨p, hp⟩ : ∃ p : Nat, p = 128 ^ i * f := ⟨_, rfl⟩
          obtain ⟨y, hy⟩ : ∃ y : Nat, y = x + p := ⟨_, rfl⟩
          rw [← hp] at hg1 hg2
          rw [← hy] at hg2
          have hg1' : (f : Int) * 2 ^ s % 18446744073709551616 = (p : Int) := by rw [← wrap_u64]; exact hg1
          by_cases hend : d < 128
          · have hfd : f = d := by omega
            have HV := Kp.mk (HG.out.done HAI.out HD.out hend hz2 hz1)
            rw [← hfd, ← hp, ← hy, ← HQ.out] at HV
            clear HG HD hs hf hp hy hz1 hz2 hxl hfd hbad9 hbad0
            rcases h3 with h3 | ⟨h3, h4, h5⟩ | ⟨h3, h4, h5, h6⟩
            all_goals
              go_wp2_with fail
              go_ret3
              exact ⟨rfl, .inl ⟨y, q + 1, rfl, HV.out⟩⟩
          · have HG2 := Kp.mk (HG.out.more HAI.out (by rw [HD.out, hf]; omega) (show f < 128 by omega))
            rw [← hp, ← hy] at HG2
            have hi8 : i + 1 ≤ 9 := by omega
            clear HG HD hs hf hp hy hz1 hz2 hxl hbad9 hbad0
            rcases h3 with h3 | ⟨h3, h4, h5⟩ | ⟨h3, h4, h5, h6⟩
            all_goals try (exfalso; omega)
            all_goals
              go_wp2_with fail
              go_roundw
              case rel => exact ⟨i + 1, y, by omega, hi8, by go_num, rfl, HG2, by first | rfl | trivial⟩
              case measure => simp [intOf]; omega
    · obtain rfl : m = i := by omega
      have HN := Kp.mk (HG.out.short (by have := HLm.out; omega))
      have hqn : n ≤ q := by have := HLm.out; omega
      clear HG hq
      go_wp2_with fail
      go_ret3
      exact ⟨rfl, .inr ⟨4, by omega, rfl, HN.out⟩⟩
end Go.Proofs.Ytinffeffffligaa.Bas
