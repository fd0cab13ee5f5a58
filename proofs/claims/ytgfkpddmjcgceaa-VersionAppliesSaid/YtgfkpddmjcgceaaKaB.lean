import Derived.Test.YtgfkpddmjcgceaaKaA
set_option linter.unusedVariables false
set_option linter.unusedSimpArgs false
namespace Go.Proofs.Ytgfkpddmjcgceaa.Kx
open Go.RowKit Go.Maps Go.Proofs.YtgfkpddmjcgceaaW.PrintWords

set_option maxHeartbeats 1000000 in
set_option maxRecDepth 100000 in
theorem bytes_compare {w : World} {A A' : Option Addr} {n c n' c' : Nat} {xs ys : List Int} (h : (Kd.int .u8).C w A n xs) (h' : (Kd.int .u8).C w A' n' ys) :
    Calls Try.prog 45 #[.slice A n c, .slice A' n' c'] w fun e w' => e = .returned (.int .i64 (cmpI xs ys)) ∧ w' = w := by
  have hr := run_compare_C (P := Try.prog) (c := c) (c' := c') h h'
  have Hr := Kp.mk hr
  clear h h' hr
  go_enter Try.func45, Try.ntmps45
  go_wp2
  rw [run_callFunc_extern Try.func50 (by kernel_rfl) (by kernel_rfl) (by kernel_rfl) (e := Extern.BytealgCompare.compare) (by kernel_rfl), Hr.out]
  simp only [Result.andThen]
  rw [Oper.upon_value]
  go_wp2
  go_ret
  exact ⟨rfl, rfl⟩

set_option maxHeartbeats 2000000 in
set_option maxRecDepth 100000 in
theorem ref_compare {w : World} {A A' : Option Addr} {n c n' c' : Nat} {xs ys : List Int} (h : (Kd.int .u8).C w A n xs) (h' : (Kd.int .u8).C w A' n' ys) (bx : Byt xs) (by' : Byt ys) :
    Calls Try.prog 46 #[.slice A n c, .slice A' n' c'] w fun e w' => e = .returned (.int .i64 (cmpI xs ys)) ∧ Below w.heap.size w w' := by
  have hl := h.1
  have hl' := h'.1
  have hm := h.2.1
  have hm' := h'.2.1
  have H := Kp.mk h
  have H' := Kp.mk h'
  have Bx := Kp.mk bx
  have By := Kp.mk by'
  have HR : Kp (cmpI xs ys = cmpI (xs.drop 0) (ys.drop 0)) := ⟨rfl⟩
  clear h h' bx by'
  go_enter Try.func46, Try.ntmps46
  go_wp2_with fail
  go_loopw [5] (fun i wr => ∃ k : Nat, k ≤ n ∧ k ≤ n' ∧ i = .int .i64 k ∧ Kp (cmpI xs ys = cmpI (xs.drop k) (ys.drop k)) ∧ Kp (Below w.heap.size w wr)) (fun i _ => n - (intOf i).toNat)
  case atStart => exact ⟨0, Nat.zero_le _, Nat.zero_le _, rfl, HR, ⟨Below.refl _ _⟩⟩
  case round =>
    clear HR
    obtain ⟨k, hk, hk', rfl, HR, HB⟩ := hrel
    by_cases hlt : k < n
    · by_cases hlt' : k < n'
      · obtain ⟨ad, rfl, c1⟩ := ints_at (Kd.C_below H.out HB.out) k hlt
        obtain ⟨ad', rfl, c2⟩ := ints_at (Kd.C_below H'.out HB.out) k hlt'
        have Hs := Kp.mk (HR.out.trans (cmpI_step Bx.out By.out (k := k) (by omega) (by omega)))
        obtain ⟨x, hx⟩ : ∃ x, xs.getD k 0 = x := ⟨_, rfl⟩
        obtain ⟨y, hy⟩ : ∃ y, ys.getD k 0 = y := ⟨_, rfl⟩
        rw [hx] at c1 Hs
        rw [hy] at c2 Hs
        clear HR hx hy
        rcases Int.lt_trichotomy x y with h | h | h
        · have Hn := Kp.mk (Hs.out.trans (if_pos h))
          have hne : (x != y) = true := by simp; omega
          clear Hs
          go_wp2_with fail
          go_quiet (fail)
          go_wp2_with fail
          go_quiet (fail)
          go_wp2
          go_ret
          exact ⟨ret_int Hn.out.symm, pw_below_drewN (pw_below_drewN HB.out _) _⟩
        · subst h
          have Hn := Kp.mk (Hs.out.trans ((if_neg (Int.lt_irrefl x)).trans (if_neg (Int.lt_irrefl x))))
          clear Hs
          go_wp2_with fail
          go_quiet (fail)
          go_wp2
          go_roundw
          case rel => exact ⟨k + 1, by omega, by omega, by go_num, Hn, ⟨pw_below_drewN HB.out _⟩⟩
          case measure => simp [intOf]; omega
        · have Hn := Kp.mk (Hs.out.trans ((if_neg (show ¬ x < y by omega)).trans (if_pos h)))
          have hne : (x != y) = true := by simp; omega
          clear Hs
          go_wp2_with fail
          go_quiet (fail)
          go_wp2_with fail
          go_quiet (fail)
          go_wp2
          go_ret
          exact ⟨ret_int Hn.out.symm, pw_below_drewN (pw_below_drewN HB.out _) _⟩
      · have Hn := Kp.mk (HR.out.trans (cmpI_end (k := k) (by omega) (by omega) (by omega)))
        rw [hl, hl'] at Hn
        clear HR
        go_wp2
        all_goals
          go_ret
          exact ⟨ret_int (by rw [Hn.out]; split <;> (try split) <;> omega), HB.out⟩
    · have Hn := Kp.mk (HR.out.trans (cmpI_end (k := k) (by omega) (by omega) (by omega)))
      rw [hl, hl'] at Hn
      clear HR
      go_wp2
      all_goals
        go_ret
        exact ⟨ret_int (by rw [Hn.out]; split <;> (try split) <;> omega), HB.out⟩
end Go.Proofs.Ytgfkpddmjcgceaa.Kx
