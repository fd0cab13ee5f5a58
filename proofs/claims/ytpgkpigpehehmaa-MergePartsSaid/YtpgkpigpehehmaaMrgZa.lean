import Derived.Test.YtpgkpigpehehmaaMrgZ
set_option linter.unusedVariables false
set_option linter.unusedSimpArgs false
namespace Go.Proofs.Ytpgkpigpehehmaa.Bas
open Go.RowKit Go.Maps Go.Sort Go.Shelf

/-! ### Entries of which only the lengths are read (whatever came in) -/
structure EsW (w : World) (A : Option Addr) (n c : Nat) (ls : List (Nat × Nat)) : Prop where
  len : ls.length = n
  max : n ≤ 9223372036854775807
  nil : A = none → n = 0 ∧ c = 0
  cell : 0 < n → ∃ b off, A = some ⟨b, off, none⟩ ∧ ∀ i, i < n → (∃ A0 c0, w.cell? ⟨b, off + i * 4, none⟩ = some (.slice A0 (ls.getD i (0, 0)).1 c0)) ∧ ∃ A1 c1, w.cell? ⟨b, off + i * 4 + 3, none⟩ = some (.slice A1 (ls.getD i (0, 0)).2 c1)
def bigL (ls : List (Nat × Nat)) : Bool := ls.any (fun e => decide (300 < e.1) || decide (300 < e.2)) || decide (60 < ls.length)
theorem bigL_true {ls : List (Nat × Nat)} {k : Nat} (hk : k < ls.length) (h : 300 < (ls.getD k (0, 0)).1 ∨ 300 < (ls.getD k (0, 0)).2) : bigL ls = true := by
  unfold bigL
  rw [Bool.or_eq_true, List.any_eq_true]
  refine .inl ⟨ls.getD k (0, 0), by simp [List.getD, hk], ?_⟩
  rw [Bool.or_eq_true]
  rcases h with h | h
  · exact .inl (decide_eq_true h)
  · exact .inr (decide_eq_true h)
theorem bigL_end {ls : List (Nat × Nat)} (h : ∀ j, j < ls.length → ¬ (300 < (ls.getD j (0, 0)).1 ∨ 300 < (ls.getD j (0, 0)).2)) : bigL ls = decide (60 < ls.length) := by
  unfold bigL
  rw [show ls.any (fun e => decide (300 < e.1) || decide (300 < e.2)) = false from ?_, Bool.false_or]
  rw [List.any_eq_false]
  intro x hx
  obtain ⟨i, hi, rfl⟩ := List.mem_iff_getElem.1 hx
  have := h i hi
  rw [List.getD_eq_getElem?_getD, List.getElem?_eq_getElem hi] at this
  simp at this ⊢
  omega
set_option maxHeartbeats 4000000 in
set_option maxRecDepth 100000 in
theorem big_weak {w : World} {A : Option Addr} {n c : Nat} {ls : List (Nat × Nat)} (h : EsW w A n c ls) : Calls Try.prog 14 #[.slice A n c] w fun e w' => e = .returned (.bool (bigL ls)) ∧ w' = w := by
  have hm := h.max
  have hl := h.len
  have H := Kp.mk h
  clear h
  go_enter Try.func14, Try.ntmps14
  go_wp2_with fail
  go_loopw [3] (fun i wr => ∃ k : Nat, k ≤ n ∧ i = .int .i64 k ∧ Kp (∀ j, j < k → ¬ (300 < (ls.getD j (0, 0)).1 ∨ 300 < (ls.getD j (0, 0)).2)) ∧ wr = w) (fun i _ => n - (intOf i).toNat)
  case atStart => exact ⟨0, Nat.zero_le _, rfl, ⟨fun j hj => by omega⟩, rfl⟩
  case round =>
    obtain ⟨k, hk, rfl, HN, rfl⟩ := hrel
    by_cases hlt : k < n
    · obtain ⟨b, off, rfl, hc⟩ := H.out.cell (by omega)
      obtain ⟨⟨A0, c0, x0⟩, A0', c0', x3⟩ := hc k hlt
      have HB := Kp.mk (fun h => bigL_true (ls := ls) (k := k) (by omega) h)
      have HK : Kp (¬ (300 < (ls.getD k (0, 0)).1 ∨ 300 < (ls.getD k (0, 0)).2) → ∀ j, j < k + 1 → ¬ (300 < (ls.getD j (0, 0)).1 ∨ 300 < (ls.getD j (0, 0)).2)) := ⟨fun h j hj => by
        by_cases hjk : j = k
        · rw [hjk]; exact h
        · exact HN.out j (by omega)⟩
      obtain ⟨n0, hn0⟩ : ∃ n0, n0 = (ls.getD k (0, 0)).1 := ⟨_, rfl⟩
      obtain ⟨n0', hn0'⟩ : ∃ n0', n0' = (ls.getD k (0, 0)).2 := ⟨_, rfl⟩
      rw [← hn0] at x0 HB HK
      rw [← hn0'] at x3 HB HK
      clear hc hn0 hn0'
      by_cases h1 : 300 < n0
      · have h1z : (300 : Int) < (n0 : Int) := by omega
        have hb := Kp.mk (HB.out (.inl h1))
        clear HB HK
        go_wp2_with fail
        go_ret
        exact ⟨ret_bool hb.out.symm, rfl⟩
      · have h1z : ¬ (300 : Int) < (n0 : Int) := by omega
        by_cases h2 : 300 < n0'
        · have h2z : (300 : Int) < (n0' : Int) := by omega
          have hb := Kp.mk (HB.out (.inr h2))
          clear HB HK
          go_wp2_with fail
          go_ret
          exact ⟨ret_bool hb.out.symm, rfl⟩
        · have h2z : ¬ (300 : Int) < (n0' : Int) := by omega
          have HN' := Kp.mk (HK.out (by omega))
          clear HB HK HN
          go_wp2_with fail
          go_roundw
          case rel => exact ⟨k + 1, by omega, by go_num, HN', by first | rfl | trivial⟩
          case measure => simp [intOf]; omega
    · have hb := Kp.mk (bigL_end (ls := ls) (fun j hj => HN.out j (by omega)))
      clear HN
      go_wp2_with fail
      go_ret
      exact ⟨ret_bool (by rw [hb.out, hl]; by_cases h60 : 60 < n <;> simp [h60] <;> omega), rfl⟩
end Go.Proofs.Ytpgkpigpehehmaa.Bas
