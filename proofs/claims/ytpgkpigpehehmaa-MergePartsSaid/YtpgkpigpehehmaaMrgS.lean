import Derived.Test.YtpgkpigpehehmaaMrgR
set_option linter.unusedVariables false
set_option linter.unusedSimpArgs false
namespace Go.Proofs.Ytpgkpigpehehmaa.Bas
open Go.RowKit Go.Maps Go.Sort Go.Shelf

/-! ### Are lists too many, or too great? -/
def lbigB (ess : List (List En)) : Bool := ess.any bigB || decide (8 < ess.length)
theorem lbig_true {ess : List (List En)} {k : Nat} (hk : k < ess.length) (h : bigB (ess.getD k []) = true) : lbigB ess = true := by
  unfold lbigB
  rw [Bool.or_eq_true, List.any_eq_true]
  exact .inl ⟨ess.getD k [], by simp [List.getD, hk], h⟩
theorem lbig_end {ess : List (List En)} (h : ∀ j, j < ess.length → bigB (ess.getD j []) = false) : lbigB ess = decide (8 < ess.length) := by
  unfold lbigB
  rw [show ess.any bigB = false from ?_, Bool.false_or]
  rw [List.any_eq_false]
  intro x hx
  obtain ⟨i, hi, rfl⟩ := List.mem_iff_getElem.1 hx
  have := h i hi
  rw [List.getD_eq_getElem?_getD, List.getElem?_eq_getElem hi] at this
  simpa using this
set_option maxHeartbeats 4000000 in
set_option maxRecDepth 100000 in
theorem lbig_any {w : World} {A : Option Addr} {n c : Nat} {ess : List (List En)} (h : Ls w A n c ess) : Calls Try.prog 7 #[.slice A n c] w fun e w' => e = .returned (.bool (lbigB ess)) ∧ w' = w := by
  have hm := h.max
  have hl := h.len
  have H := Kp.mk h
  clear h
  go_enter Try.func7, Try.ntmps7
  go_wp2_with fail
  go_loopw [3] (fun i wr => ∃ k : Nat, k ≤ n ∧ i = .int .i64 k ∧ Kp (∀ j, j < k → bigB (ess.getD j []) = false) ∧ wr = w) (fun i _ => n - (intOf i).toNat)
  case atStart => exact ⟨0, Nat.zero_le _, rfl, ⟨fun j hj => by omega⟩, rfl⟩
  case round =>
    obtain ⟨k, hk, rfl, HN, rfl⟩ := hrel
    by_cases hlt : k < n
    · obtain ⟨ad, rfl, hc⟩ := H.out.cell (by omega)
      obtain ⟨A', c', x0, hes⟩ := hc k hlt
      obtain ⟨es, hes0⟩ : ∃ es, es = ess.getD k [] := ⟨_, rfl⟩
      rw [← hes0] at x0 hes
      obtain ⟨m, hm'⟩ : ∃ m, m = es.length := ⟨_, rfl⟩
      rw [← hm'] at x0 hes
      obtain ⟨b, hb⟩ : ∃ b, bigB es = b := ⟨_, rfl⟩
      have hbc := big_any hes
      rw [hb] at hbc
      have Hbc := Kp.mk hbc
      have Hb := Kp.mk (show bigB (ess.getD k []) = b by rw [← hes0]; exact hb)
      clear hbc hb hes hes0 hc hm'
      cases b with
      | true =>
        have HT := Kp.mk (lbig_true (by omega) Hb.out)
        go_wp2_with (go_at_call 14; refine Hbc.out.mono ?_; rintro e w1 ⟨rfl, hw1⟩)
        subst hw1
        go_ret
        exact ⟨ret_bool HT.out.symm, rfl⟩
      | false =>
        have HN' : Kp (∀ j, j < k + 1 → bigB (ess.getD j []) = false) := ⟨fun j hj => by
          by_cases hjk : j = k
          · rw [hjk]; exact Hb.out
          · exact HN.out j (by omega)⟩
        clear HN
        go_wp2_with (go_at_call 14; refine Hbc.out.mono ?_; rintro e w1 ⟨rfl, hw1⟩)
        subst hw1
        go_roundw
        case rel => exact ⟨k + 1, by omega, by go_num, HN', by first | rfl | trivial⟩
        case measure => simp [intOf]; omega
    · have hb := Kp.mk (lbig_end (ess := ess) (fun j hj => HN.out j (by omega)))
      clear HN
      go_wp2_with fail
      go_ret
      exact ⟨ret_bool (by rw [hb.out, hl]; by_cases h60 : 8 < n <;> simp [h60] <;> omega), rfl⟩
theorem bigB_short {es : List En} (h : bigB es = false) : es.length ≤ 60 := by
  unfold bigB at h
  rw [Bool.or_eq_false_iff] at h
  have := of_decide_eq_false h.2
  omega

/-! ### A strictly rising list, dealt out and sorted again, is what it was -/
theorem keyCmp_self (k : Ky) : keyCmp k k = 0 := by
  have := keyCmp_anti k k
  omega
theorem rises_pairwise {es : List En} (h : risesFrom es = true) : es.Pairwise (fun x y => keyCmp x.k y.k < 0) := by
  induction es with
  | nil => exact List.Pairwise.nil
  | cons a r ih =>
    cases r with
    | nil => exact List.pairwise_singleton _ _
    | cons b r =>
      simp only [risesFrom, Bool.and_eq_true, decide_eq_true_eq] at h
      have hr := ih h.2
      refine List.pairwise_cons.2 ⟨fun y hy => ?_, hr⟩
      rcases List.mem_cons.1 hy with rfl | hy
      · exact h.1
      · have h2 := (List.pairwise_cons.1 hr).1 y hy
        have h3 := keyCmp_trans a.k b.k y.k (by omega) (by omega)
        by_cases h0 : keyCmp a.k y.k = 0
        · exfalso
          have h4 := keyCmp_anti a.k y.k
          have h5 := keyCmp_trans y.k a.k b.k (by omega) (by omega)
          have h6 := keyCmp_anti b.k y.k
          omega
        · omega
theorem pairwise_rises {es : List En} (h : es.Pairwise (fun x y => keyCmp x.k y.k < 0)) : risesFrom es = true := by
  induction es with
  | nil => rfl
  | cons a r ih =>
    cases r with
    | nil => rfl
    | cons b r =>
      simp only [risesFrom, Bool.and_eq_true, decide_eq_true_eq]
      exact ⟨(List.pairwise_cons.1 h).1 b (List.mem_cons_self ..), ih (List.pairwise_cons.1 h).2⟩
theorem dd_rising {L : List En} (h : L.Pairwise (fun x y => keyCmp x.k y.k < 0)) : ∀ k, k ≤ L.length → dd L k = L.take k
  | 0, _ => by simp [dd]
  | k + 1, hk => by
    have e1 : dd L (k + 1) = if k = 0 ∨ keyCmp (L.getD (k - 1) enD).k (L.getD k enD).k ≠ 0 then dd L k ++ [L.getD k enD] else dd L k := rfl
    have hc : k = 0 ∨ keyCmp (L.getD (k - 1) enD).k (L.getD k enD).k ≠ 0 := by
      by_cases h0 : k = 0
      · exact .inl h0
      · right
        have := (List.pairwise_iff_getElem.1 h) (k - 1) k (by omega) (by omega) (by omega)
        simp only [List.getD_eq_getElem?_getD]
        rw [List.getElem?_eq_getElem (by omega), List.getElem?_eq_getElem (by omega)]
        simp only [Option.getD_some]
        omega
    rw [e1, if_pos hc, dd_rising h k (by omega), List.take_succ_eq_append_getElem (by omega)]
    simp [List.getD, show k < L.length by omega]
theorem rising_unique : ∀ {a b : List En}, a.Pairwise (fun x y => keyCmp x.k y.k < 0) → b.Pairwise (fun x y => keyCmp x.k y.k < 0) → a.Perm b → a = b
  | [], b, _, _, hp => by rw [hp.nil_eq]
  | x :: a, [], _, _, hp => by have := hp.length_eq; simp at this
  | x :: a, y :: b, ha, hb, hp => by
    have hxy : x = y := by
      have hx : x ∈ y :: b := hp.subset (List.mem_cons_self ..)
      have hy : y ∈ x :: a := hp.symm.subset (List.mem_cons_self ..)
      rcases List.mem_cons.1 hx with e | hx
      · exact e
      · rcases List.mem_cons.1 hy with e | hy
        · exact e.symm
        · exfalso
          have h1 := (List.pairwise_cons.1 hb).1 x hx
          have h2 := (List.pairwise_cons.1 ha).1 y hy
          have := keyCmp_anti x.k y.k
          omega
    subst hxy
    rw [rising_unique (List.pairwise_cons.1 ha).2 (List.pairwise_cons.1 hb).2 (List.Perm.cons_inv hp)]
/-- A strictly rising list, in any order, sorted, each once: what it was. -/
theorem str_rising {l a L : List En} (hl : risesFrom l = true) (hp : a.Perm l) (h : StR a L) : dd L L.length = l := by
  have hw := rises_pairwise hl
  have hLl : L.Perm l := h.1.trans hp
  have hn : l.Pairwise (fun x y => keyCmp x.k y.k ≠ 0) := hw.imp (fun {x y} h => by omega)
  have hnL : L.Pairwise (fun x y => keyCmp x.k y.k ≠ 0) := hLl.symm.pairwise hn (fun {x y} h => by have := keyCmp_anti x.k y.k; omega)
  have hr : L.Pairwise (fun x y => keyCmp x.k y.k < 0) := (h.2.1.and hnL).imp (fun {x y} h => by have := h.1; have := h.2; omega)
  rw [dd_rising hr L.length (Nat.le_refl _), List.take_length]
  exact rising_unique hr hw hLl
end Go.Proofs.Ytpgkpigpehehmaa.Bas
