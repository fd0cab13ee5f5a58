import Derived.Test.YtpgkpigpehehmaaMrgZa
set_option linter.unusedVariables false
set_option linter.unusedSimpArgs false
namespace Go.Proofs.Ytpgkpigpehehmaa.Bas
open Go.RowKit Go.Maps Go.Sort Go.Shelf

/-- Lists of entries of which only the lengths are read. -/
structure LsW (w : World) (A : Option Addr) (n c : Nat) (ess : List (List (Nat × Nat))) : Prop where
  len : ess.length = n
  max : n ≤ 9223372036854775807
  nil : A = none → n = 0 ∧ c = 0
  cell : 0 < n → ∃ ad, A = some ad ∧ ∀ i, i < n → ∃ A' c', w.cell? (ad.add i) = some (.slice A' (ess.getD i []).length c') ∧ EsW w A' (ess.getD i []).length c' (ess.getD i [])
def lbigL (ess : List (List (Nat × Nat))) : Bool := ess.any bigL || decide (8 < ess.length)
theorem lbigL_true {ess : List (List (Nat × Nat))} {k : Nat} (hk : k < ess.length) (h : bigL (ess.getD k []) = true) : lbigL ess = true := by
  unfold lbigL
  rw [Bool.or_eq_true, List.any_eq_true]
  exact .inl ⟨ess.getD k [], by simp [List.getD, hk], h⟩
theorem lbigL_end {ess : List (List (Nat × Nat))} (h : ∀ j, j < ess.length → bigL (ess.getD j []) = false) : lbigL ess = decide (8 < ess.length) := by
  unfold lbigL
  rw [show ess.any bigL = false from ?_, Bool.false_or]
  rw [List.any_eq_false]
  intro x hx
  obtain ⟨i, hi, rfl⟩ := List.mem_iff_getElem.1 hx
  have := h i hi
  rw [List.getD_eq_getElem?_getD, List.getElem?_eq_getElem hi] at this
  simpa using this
set_option maxHeartbeats 4000000 in
set_option maxRecDepth 100000 in
theorem lbig_weak {w : World} {A : Option Addr} {n c : Nat} {ess : List (List (Nat × Nat))} (h : LsW w A n c ess) : Calls Try.prog 7 #[.slice A n c] w fun e w' => e = .returned (.bool (lbigL ess)) ∧ w' = w := by
  have hm := h.max
  have hl := h.len
  have H := Kp.mk h
  clear h
  go_enter Try.func7, Try.ntmps7
  go_wp2_with fail
  go_loopw [3] (fun i wr => ∃ k : Nat, k ≤ n ∧ i = .int .i64 k ∧ Kp (∀ j, j < k → bigL (ess.getD j []) = false) ∧ wr = w) (fun i _ => n - (intOf i).toNat)
  case atStart => exact ⟨0, Nat.zero_le _, rfl, ⟨fun j hj => by omega⟩, rfl⟩
  case round =>
    obtain ⟨k, hk, rfl, HN, rfl⟩ := hrel
    by_cases hlt : k < n
    · obtain ⟨ad, rfl, hc⟩ := H.out.cell (by omega)
      obtain ⟨A', c', x0, hes⟩ := hc k hlt
      obtain ⟨es, hes0⟩ : ∃ es, es = ess.getD k [] := ⟨_, rfl⟩
      rw [← hes0] at x0 hes
      obtain ⟨m, hm'⟩ : ∃ m, m = es.length := ⟨_, rfl⟩
      rw [← hm'] at x0 hes
      obtain ⟨b, hb⟩ : ∃ b, bigL es = b := ⟨_, rfl⟩
      have hbc := big_weak hes
      rw [hb] at hbc
      have Hbc := Kp.mk hbc
      have Hb := Kp.mk (show bigL (ess.getD k []) = b by rw [← hes0]; exact hb)
      clear hbc hb hes hes0 hc hm'
      cases b with
      | true =>
        have HT := Kp.mk (lbigL_true (by omega) Hb.out)
        go_wp2_with (go_at_call 14; refine Hbc.out.mono ?_; rintro e w1 ⟨rfl, hw1⟩)
        subst hw1
        go_ret
        exact ⟨ret_bool HT.out.symm, rfl⟩
      | false =>
        have HN' : Kp (∀ j, j < k + 1 → bigL (ess.getD j []) = false) := ⟨fun j hj => by
          by_cases hjk : j = k
          · rw [hjk]; exact Hb.out
          · exact HN.out j (by omega)⟩
        clear HN
        go_wp2_with (go_at_call 14; refine Hbc.out.mono ?_; rintro e w1 ⟨rfl, hw1⟩)
        subst hw1
        go_roundw
        case rel => exact ⟨k + 1, by omega, by go_num, HN', by first | rfl | trivial⟩
        case measure => simp [intOf]; omega
    · have hb := Kp.mk (lbigL_end (ess := ess) (fun j hj => HN.out j (by omega)))
      clear HN
      go_wp2_with fail
      go_ret
      exact ⟨ret_bool (by rw [hb.out, hl]; by_cases h60 : 8 < n <;> simp [h60] <;> omega), rfl⟩
end Go.Proofs.Ytpgkpigpehehmaa.Bas
