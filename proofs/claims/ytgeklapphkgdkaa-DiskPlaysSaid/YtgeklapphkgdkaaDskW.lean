import Derived.Test.YtgeklapphkgdkaaDskV
set_option linter.unusedVariables false
set_option linter.unusedSimpArgs false
namespace Go.Proofs.Ytgeklapphkgdkaa.Dsk
open Go.RowKit Go.Maps

theorem bys_at (s : ByteArray) (k : Nat) (h : k < s.size) : (bys s).getD k 0 = ((s[k]'h).toNat : Int) := by
  rw [bys_getD]
  have h' : k < s.data.toList.length := by simpa using h
  simp [List.getD, List.getElem?_eq_getElem h', ByteArray.getElem_eq_getElem_data]

set_option maxHeartbeats 2000000 in
set_option maxRecDepth 100000 in
theorem named_any (s : ByteArray) (hs : s.size ≤ 100000) (w : World) : Calls Try.prog 22 #[.string s] w fun e w' => e = .returned (.bool (nameOk s)) ∧ Below w.heap.size w w' := by
  have HF : Kp (nameOk s = (decide (1 ≤ s.size) && decide (s.size ≤ 40) && ((bys s).drop 0).all okc)) := ⟨rfl⟩
  go_enter Try.func22, Try.ntmps22
  go_wp2_with fail
  go_loopw [3] (fun i wr => ∃ k : Nat, k ≤ s.size ∧ i = .int .i64 k ∧ Kp (nameOk s = (decide (1 ≤ s.size) && decide (s.size ≤ 40) && ((bys s).drop k).all okc)) ∧ Kp (Below w.heap.size w wr)) (fun i _ => s.size - (intOf i).toNat)
  case atStart => exact ⟨0, Nat.zero_le _, rfl, HF, ⟨Below.refl _ _⟩⟩
  case round =>
    clear HF
    obtain ⟨k, hk, rfl, HF, HB⟩ := hrel
    by_cases hlt : k < s.size
    · have Hs := Kp.mk (all_drop (bys s) k (by rw [bys_length]; exact hlt))
      rw [bys_at s k hlt] at Hs
      rcases (show (97 ≤ ((s[k]'hlt).toNat : Int) ∧ ((s[k]'hlt).toNat : Int) ≤ 122) ∨ (65 ≤ ((s[k]'hlt).toNat : Int) ∧ ((s[k]'hlt).toNat : Int) ≤ 90) ∨ (48 ≤ ((s[k]'hlt).toNat : Int) ∧ ((s[k]'hlt).toNat : Int) ≤ 57) ∨ ((s[k]'hlt).toNat : Int) = 46 ∨ ((s[k]'hlt).toNat : Int) = 45 ∨ ((s[k]'hlt).toNat : Int) < 45 ∨ ((s[k]'hlt).toNat : Int) = 47 ∨ (58 ≤ ((s[k]'hlt).toNat : Int) ∧ ((s[k]'hlt).toNat : Int) ≤ 64) ∨ (91 ≤ ((s[k]'hlt).toNat : Int) ∧ ((s[k]'hlt).toNat : Int) ≤ 96) ∨ 123 ≤ ((s[k]'hlt).toNat : Int) by omega) with h | h | h | h | h | h | h | h | h | h
      iterate 5
        · have Hn : Kp (nameOk s = (decide (1 ≤ s.size) && decide (s.size ≤ 40) && ((bys s).drop (k + 1)).all okc)) := ⟨by rw [HF.out, Hs.out, okc_true (by omega), Bool.true_and]⟩
          clear Hs HF
          try obtain ⟨h, hh⟩ := h
          go_wp2
          all_goals first
            | (exfalso; simp_all; done)
            | (go_roundw
               case rel => exact ⟨k + 1, by omega, by go_num, Hn, HB⟩
               case measure => simp [intOf]; omega)
      all_goals
        have Hn : Kp (nameOk s = false) := ⟨by rw [HF.out, Hs.out, okc_false (by omega), Bool.false_and, Bool.and_false]⟩
        have h46 : (((s[k]'hlt).toNat : Int) == 46) = false := by simp; omega
        have h45 : (((s[k]'hlt).toNat : Int) == 45) = false := by simp; omega
        have h46' : (((s[k]'hlt).toNat : Int) != 46) = true := by simp; omega
        have h45' : (((s[k]'hlt).toNat : Int) != 45) = true := by simp; omega
        clear Hs HF
        try obtain ⟨h, hh⟩ := h
        go_wp2
        all_goals first
          | (go_ret; exact ⟨ret_bool Hn.out.symm, HB.out⟩)
          | (exfalso; simp_all; done)
    · have Hn : Kp (nameOk s = (decide (1 ≤ s.size) && decide (s.size ≤ 40))) := ⟨by rw [HF.out, List.drop_eq_nil_of_le (by rw [bys_length]; omega)]; simp⟩
      clear HF
      go_wp2
      all_goals
        go_ret
        exact ⟨ret_bool (by rw [Hn.out, Bool.eq_iff_iff]; simp; omega), HB.out⟩
end Go.Proofs.Ytgeklapphkgdkaa.Dsk
