import Derived.Test.YtinffeffffligaaBasC
set_option linter.unusedVariables false
set_option linter.unusedSimpArgs false
namespace Go.Proofs.Ytinffeffffligaa.Bas
open Go.RowKit Go.Maps

def Byt (xs : List Int) : Prop := ∀ x ∈ xs, 0 ≤ x ∧ x ≤ 255
theorem u8_lt {x y : Int} (hx : 0 ≤ x ∧ x ≤ 255) (hy : 0 ≤ y ∧ y ≤ 255) : UInt8.ofNat x.toNat < UInt8.ofNat y.toNat ↔ x < y := by
  rw [UInt8.lt_iff_toNat_lt]
  simp only [UInt8.toNat_ofNat']
  omega
theorem cmpI_nil : cmpI [] [] = 0 := rfl
theorem cmpI_nil_cons (y : Int) (ys : List Int) : cmpI [] (y :: ys) = -1 := rfl
theorem cmpI_cons_nil (x : Int) (xs : List Int) : cmpI (x :: xs) [] = 1 := rfl
theorem cmpI_cons {x y : Int} (xs ys : List Int) (hx : 0 ≤ x ∧ x ≤ 255) (hy : 0 ≤ y ∧ y ≤ 255) : cmpI (x :: xs) (y :: ys) = if x < y then -1 else if y < x then 1 else cmpI xs ys := by
  unfold cmpI Lib.bytesOf
  rw [List.map_cons, List.map_cons, Lib.compareBytes]
  simp only [u8_lt hx hy, u8_lt hy hx]
theorem byt_getD {xs : List Int} (h : Byt xs) (k : Nat) : 0 ≤ xs.getD k 0 ∧ xs.getD k 0 ≤ 255 := by
  by_cases hk : k < xs.length
  · have : xs.getD k 0 = xs[k] := by simp [List.getD, hk]
    rw [this]
    exact h _ (List.getElem_mem hk)
  · have : xs.getD k 0 = 0 := by simp [List.getD, List.getElem?_eq_none (show xs.length ≤ k by omega)]
    omega
theorem drop_getD {xs : List Int} {k : Nat} (hk : k < xs.length) : xs.drop k = xs.getD k 0 :: xs.drop (k + 1) := by
  rw [List.drop_eq_getElem_cons hk]
  simp [List.getD, hk]
theorem cmpI_step {xs ys : List Int} (hx : Byt xs) (hy : Byt ys) {k : Nat} (h1 : k < xs.length) (h2 : k < ys.length) :
    cmpI (xs.drop k) (ys.drop k) = if xs.getD k 0 < ys.getD k 0 then -1 else if ys.getD k 0 < xs.getD k 0 then 1 else cmpI (xs.drop (k + 1)) (ys.drop (k + 1)) := by
  rw [drop_getD h1, drop_getD h2, cmpI_cons _ _ (byt_getD hx k) (byt_getD hy k)]
theorem cmpI_end {xs ys : List Int} {k : Nat} (hk1 : k ≤ xs.length) (hk2 : k ≤ ys.length) (h : k = xs.length ∨ k = ys.length) :
    cmpI (xs.drop k) (ys.drop k) = if xs.length < ys.length then -1 else if ys.length < xs.length then 1 else 0 := by
  rcases Nat.lt_trichotomy xs.length ys.length with h3 | h3 | h3
  · have : k = xs.length := by omega
    subst this
    rw [if_pos h3, List.drop_length, drop_getD h3]; rfl
  · have h4 : k = xs.length := by omega
    rw [if_neg (by omega), if_neg (by omega), h4, List.drop_length, h3, List.drop_length]; rfl
  · have : k = ys.length := by omega
    subst this
    rw [if_neg (by omega), if_pos h3, List.drop_length, drop_getD h3]; rfl

theorem Rd.at {w : World} {k : IntKind} {A : Option Addr} {n c : Nat} {xs : List Int} (h : Rd w k A n c xs) (hn : 0 < n) : ∃ ad, A = some ad ∧ ∀ j, j < n → w.cell? (ad.add j) = some (.int k (xs.getD j 0)) := h.cell hn

set_option maxHeartbeats 2000000 in
set_option maxRecDepth 100000 in
theorem ref_compare {w : World} {A A' : Option Addr} {n c n' c' : Nat} {xs ys : List Int} (h : Rd w .u8 A n c xs) (h' : Rd w .u8 A' n' c' ys) (bx : Byt xs) (by' : Byt ys) :
    Calls Try.prog 40 #[.slice A n c, .slice A' n' c'] w fun e w' => e = .returned (.int .i64 (cmpI xs ys)) ∧ Below w.heap.size w w' := by
  have hl := h.len
  have hl' := h'.len
  have hm := h.max
  have hm' := h'.max
  have H := Kp.mk h
  have H' := Kp.mk h'
  have Bx := Kp.mk bx
  have By := Kp.mk by'
  have HR : Kp (cmpI xs ys = cmpI (xs.drop 0) (ys.drop 0)) := ⟨rfl⟩
  clear h h' bx by'
  go_enter Try.func40, Try.ntmps40
  go_wp2_with fail
  go_loopw [5] (fun i wr => ∃ k : Nat, k ≤ n ∧ k ≤ n' ∧ i = .int .i64 k ∧ Kp (cmpI xs ys = cmpI (xs.drop k) (ys.drop k)) ∧ Kp (Below w.heap.size w wr)) (fun i _ => n - (intOf i).toNat)
  case atStart => exact ⟨0, Nat.zero_le _, Nat.zero_le _, rfl, HR, ⟨Below.refl _ _⟩⟩
  case round =>
    clear HR
    obtain ⟨k, hk, hk', rfl, HR, HB⟩ := hrel
    by_cases hlt : k < n
    · by_cases hlt' : k < n'
      · obtain ⟨ad, rfl, hc⟩ := (H.out.below HB.out).cell (by omega)
        obtain ⟨ad', rfl, hc'⟩ := (H'.out.below HB.out).cell (by omega)
        have c1 := hc k hlt
        have c2 := hc' k hlt'
        have Hs := Kp.mk (HR.out.trans (cmpI_step Bx.out By.out (k := k) (by omega) (by omega)))
        obtain ⟨x, hx⟩ : ∃ x, xs.getD k 0 = x := ⟨_, rfl⟩
        obtain ⟨y, hy⟩ : ∃ y, ys.getD k 0 = y := ⟨_, rfl⟩
        rw [hx] at c1 Hs
        rw [hy] at c2 Hs
        clear hc hc' HR hx hy
        rcases Int.lt_trichotomy x y with h | h | h
        · have Hn := Kp.mk (Hs.out.trans (if_pos h))
          have hne : (x != y) = true := by simp; omega
          clear Hs
          go_wp2_with fail
          go_quiet (fail)
          go_wp2_with fail
          go_quiet (fail)
          go_wp2
          go_ret
          exact ⟨ret_int Hn.out.symm, below_drewN (below_drewN HB.out _) _⟩
        · subst h
          have Hn := Kp.mk (Hs.out.trans ((if_neg (Int.lt_irrefl x)).trans (if_neg (Int.lt_irrefl x))))
          clear Hs
          go_wp2_with fail
          go_quiet (fail)
          go_wp2
          go_roundw
          case rel => exact ⟨k + 1, by omega, by omega, by go_num, Hn, ⟨below_drewN HB.out _⟩⟩
          case measure => simp [intOf]; omega
        · have Hn := Kp.mk (Hs.out.trans ((if_neg (show ¬ x < y by omega)).trans (if_pos h)))
          have hne : (x != y) = true := by simp; omega
          clear Hs
          go_wp2_with fail
          go_quiet (fail)
          go_wp2_with fail
          go_quiet (fail)
          go_wp2
          go_ret
          exact ⟨ret_int Hn.out.symm, below_drewN (below_drewN HB.out _) _⟩
      · have Hn := Kp.mk (HR.out.trans (cmpI_end (k := k) (by omega) (by omega) (by omega)))
        rw [hl, hl'] at Hn
        clear HR
        go_wp2
        all_goals
          go_ret
          exact ⟨ret_int (by rw [Hn.out]; split <;> (try split) <;> omega), HB.out⟩
    · have Hn := Kp.mk (HR.out.trans (cmpI_end (k := k) (by omega) (by omega) (by omega)))
      rw [hl, hl'] at Hn
      clear HR
      go_wp2
      all_goals
        go_ret
        exact ⟨ret_int (by rw [Hn.out]; split <;> (try split) <;> omega), HB.out⟩
end Go.Proofs.Ytinffeffffligaa.Bas
