import Derived.Test.YtinffeffffligaaBlM
import Derived.BigQuiet
set_option linter.unusedVariables false
set_option linter.unusedSimpArgs false
namespace Go.Proofs.Ytinffeffffligaa.Bas
open Go.RowKit Go.Maps

/-! ### What two keys have in common -/
def comN : List Int → List Int → Nat
  | x :: xs, y :: ys => if x = y then 1 + comN xs ys else 0
  | _, _ => 0
theorem comN_le : ∀ (xs ys : List Int), comN xs ys ≤ xs.length ∧ comN xs ys ≤ ys.length
  | [], _ => ⟨Nat.zero_le _, Nat.zero_le _⟩
  | _ :: _, [] => ⟨Nat.zero_le _, Nat.zero_le _⟩
  | x :: xs, y :: ys => by
    unfold comN
    have := comN_le xs ys
    split
    · simp only [List.length_cons]; omega
    · exact ⟨Nat.zero_le _, Nat.zero_le _⟩
theorem comN_take : ∀ (xs ys : List Int), xs.take (comN xs ys) = ys.take (comN xs ys)
  | [], ys => by simp [comN]
  | _ :: _, [] => by simp [comN]
  | x :: xs, y :: ys => by
    unfold comN
    split
    · rename_i h
      rw [Nat.add_comm, List.take_succ_cons, List.take_succ_cons, comN_take xs ys, h]
    · simp
theorem comN_end {xs ys : List Int} {k : Nat} (h : xs.length ≤ k ∨ ys.length ≤ k) : comN (xs.drop k) (ys.drop k) = 0 := by
  rcases h with h | h
  · rw [List.drop_eq_nil_of_le h]; simp [comN]
  · rw [List.drop_eq_nil_of_le h]; cases xs.drop k <;> rfl
theorem comN_step {xs ys : List Int} {k : Nat} (h1 : k < xs.length) (h2 : k < ys.length) : comN (xs.drop k) (ys.drop k) = if xs.getD k 0 = ys.getD k 0 then 1 + comN (xs.drop (k + 1)) (ys.drop (k + 1)) else 0 := by
  rw [drop_getD h1, drop_getD h2]; rfl
set_option maxHeartbeats 2000000 in
set_option maxRecDepth 100000 in
theorem common_any {w : World} {A B : Option Addr} {n c m d : Nat} {xs ys : List Int} (h : Rd w .u8 A n c xs) (g : Rd w .u8 B m d ys) : Calls Try.prog 26 #[.slice A n c, .slice B m d] w fun e w' => e = .returned (.int .i64 (comN xs ys : Nat)) ∧ Below w.heap.size w w' := by
  have hm := h.max
  have gm := g.max
  have hl := h.len
  have gl := g.len
  have H := Kp.mk h
  have G := Kp.mk g
  clear h g
  go_enter Try.func26, Try.ntmps26
  go_wp2_with fail
  go_loopw [5] (fun i wr => ∃ k : Nat, k ≤ n ∧ i = .int .i64 k ∧ Kp (comN xs ys = k + comN (xs.drop k) (ys.drop k)) ∧ Kp (Below w.heap.size w wr)) (fun i _ => n - (intOf i).toNat)
  case atStart => exact ⟨0, Nat.zero_le _, rfl, ⟨by simp⟩, ⟨Below.refl _ _⟩⟩
  case round =>
    obtain ⟨k, hk, rfl, HC, HB⟩ := hrel
    by_cases h1 : k < n
    · by_cases h2 : k < m
      · obtain ⟨ad, rfl, hcell⟩ := (H.out.below HB.out).cell (by omega)
        obtain ⟨bd, rfl, gcell⟩ := (G.out.below HB.out).cell (by omega)
        have x0 := hcell k h1
        have y0 := gcell k h2
        have hs := comN_step (xs := xs) (ys := ys) (k := k) (by omega) (by omega)
        have hkn : ¬ n ≤ k := by omega
        have hkm : ¬ m ≤ k := by omega
        generalize xs.getD k 0 = p at x0 hs
        generalize ys.getD k 0 = q at y0 hs
        by_cases he : p = q
        · rw [if_pos he] at hs
          have HC2 : Kp (comN xs ys = (k + 1) + comN (xs.drop (k + 1)) (ys.drop (k + 1))) := ⟨by rw [HC.out, hs]; omega⟩
          subst he
          clear hs hcell gcell HC
          go_wp2_with fail
          have X0 := blw_cell x0
          have Y0 := blw_cell y0
          clear x0 y0
          refine wp_region_below (by kernel_rfl) (by kernel_rfl) ?_
          repeat (first | go_big_quiet_step (fail) | quiet_step (fail))
          refine wpQuiet_nil ?_
          rintro _ ⟨pq, rfl⟩
          have HB2 := Kp.mk (HB.out.trans (pq.h.mono HB.out.size))
          go_wp2_with fail
          go_roundw
          case rel => exact ⟨k + 1, by omega, by go_num, HC2, HB2⟩
          case measure => simp [intOf]; omega
        · rw [if_neg he] at hs
          have HC2 : Kp (comN xs ys = k) := ⟨by rw [HC.out, hs]; rfl⟩
          have hpq : (p == q) = false := by simpa using he
          clear hs hcell gcell HC he
          go_wp2_with fail
          have X0 := blw_cell x0
          have Y0 := blw_cell y0
          clear x0 y0
          refine wp_region_below (by kernel_rfl) (by kernel_rfl) ?_
          repeat (first | go_big_quiet_step (fail) | quiet_step (fail))
          refine wpQuiet_nil ?_
          rintro _ ⟨pq, rfl⟩
          have HB2 := Kp.mk (HB.out.trans (pq.h.mono HB.out.size))
          go_wp2_with fail
          go_ret
          exact ⟨ret_int (by rw [HC2.out]), HB2.out⟩
      · have HC2 : Kp (comN xs ys = k) := ⟨by rw [HC.out, comN_end (.inr (by omega))]; rfl⟩
        have hkn : ¬ n ≤ k := by omega
        have hkm : m ≤ k := by omega
        clear HC
        go_wp2_with fail
        refine wp_region_below (by kernel_rfl) (by kernel_rfl) ?_
        repeat (first | go_big_quiet_step (fail) | quiet_step (fail))
        refine wpQuiet_nil ?_
        rintro _ ⟨pq, rfl⟩
        have HB2 := Kp.mk (HB.out.trans (pq.h.mono HB.out.size))
        go_wp2_with fail
        go_ret
        exact ⟨ret_int (by rw [HC2.out]), HB2.out⟩
    · have HC2 : Kp (comN xs ys = k) := ⟨by rw [HC.out, comN_end (.inl (by omega))]; rfl⟩
      have hkn : n ≤ k := by omega
      clear HC
      go_wp2_with fail
      refine wp_region_below (by kernel_rfl) (by kernel_rfl) ?_
      repeat (first | go_big_quiet_step (fail) | quiet_step (fail))
      refine wpQuiet_nil ?_
      rintro _ ⟨pq, rfl⟩
      have HB2 := Kp.mk (HB.out.trans (pq.h.mono HB.out.size))
      go_wp2_with fail
      go_ret
      exact ⟨ret_int (by rw [HC2.out]), HB2.out⟩
set_option maxHeartbeats 2000000 in
set_option maxRecDepth 100000 in
theorem ref_common {w : World} {A B : Option Addr} {n c m d : Nat} {xs ys : List Int} (h : Rd w .u8 A n c xs) (g : Rd w .u8 B m d ys) : Calls Try.prog 48 #[.slice A n c, .slice B m d] w fun e w' => e = .returned (.int .i64 (comN xs ys : Nat)) ∧ Below w.heap.size w w' := by
  have hm := h.max
  have gm := g.max
  have hl := h.len
  have gl := g.len
  have H := Kp.mk h
  have G := Kp.mk g
  clear h g
  go_enter Try.func48, Try.ntmps48
  go_wp2_with fail
  go_loopw [5] (fun i wr => ∃ k : Nat, k ≤ n ∧ i = .int .i64 k ∧ Kp (comN xs ys = k + comN (xs.drop k) (ys.drop k)) ∧ Kp (Below w.heap.size w wr)) (fun i _ => n - (intOf i).toNat)
  case atStart => exact ⟨0, Nat.zero_le _, rfl, ⟨by simp⟩, ⟨Below.refl _ _⟩⟩
  case round =>
    obtain ⟨k, hk, rfl, HC, HB⟩ := hrel
    by_cases h1 : k < n
    · by_cases h2 : k < m
      · obtain ⟨ad, rfl, hcell⟩ := (H.out.below HB.out).cell (by omega)
        obtain ⟨bd, rfl, gcell⟩ := (G.out.below HB.out).cell (by omega)
        have x0 := hcell k h1
        have y0 := gcell k h2
        have hs := comN_step (xs := xs) (ys := ys) (k := k) (by omega) (by omega)
        have hkn : ¬ n ≤ k := by omega
        have hkm : ¬ m ≤ k := by omega
        generalize xs.getD k 0 = p at x0 hs
        generalize ys.getD k 0 = q at y0 hs
        by_cases he : p = q
        · rw [if_pos he] at hs
          have HC2 : Kp (comN xs ys = (k + 1) + comN (xs.drop (k + 1)) (ys.drop (k + 1))) := ⟨by rw [HC.out, hs]; omega⟩
          subst he
          clear hs hcell gcell HC
          go_wp2_with fail
          have X0 := blw_cell x0
          have Y0 := blw_cell y0
          clear x0 y0
          refine wp_region_below (by kernel_rfl) (by kernel_rfl) ?_
          repeat (first | go_big_quiet_step (fail) | quiet_step (fail))
          refine wpQuiet_nil ?_
          rintro _ ⟨pq, rfl⟩
          have HB2 := Kp.mk (HB.out.trans (pq.h.mono HB.out.size))
          go_wp2_with fail
          go_roundw
          case rel => exact ⟨k + 1, by omega, by go_num, HC2, HB2⟩
          case measure => simp [intOf]; omega
        · rw [if_neg he] at hs
          have HC2 : Kp (comN xs ys = k) := ⟨by rw [HC.out, hs]; rfl⟩
          have hpq : (p == q) = false := by simpa using he
          clear hs hcell gcell HC he
          go_wp2_with fail
          have X0 := blw_cell x0
          have Y0 := blw_cell y0
          clear x0 y0
          refine wp_region_below (by kernel_rfl) (by kernel_rfl) ?_
          repeat (first | go_big_quiet_step (fail) | quiet_step (fail))
          refine wpQuiet_nil ?_
          rintro _ ⟨pq, rfl⟩
          have HB2 := Kp.mk (HB.out.trans (pq.h.mono HB.out.size))
          go_wp2_with fail
          go_ret
          exact ⟨ret_int (by rw [HC2.out]), HB2.out⟩
      · have HC2 : Kp (comN xs ys = k) := ⟨by rw [HC.out, comN_end (.inr (by omega))]; rfl⟩
        have hkn : ¬ n ≤ k := by omega
        have hkm : m ≤ k := by omega
        clear HC
        go_wp2_with fail
        refine wp_region_below (by kernel_rfl) (by kernel_rfl) ?_
        repeat (first | go_big_quiet_step (fail) | quiet_step (fail))
        refine wpQuiet_nil ?_
        rintro _ ⟨pq, rfl⟩
        have HB2 := Kp.mk (HB.out.trans (pq.h.mono HB.out.size))
        go_wp2_with fail
        go_ret
        exact ⟨ret_int (by rw [HC2.out]), HB2.out⟩
    · have HC2 : Kp (comN xs ys = k) := ⟨by rw [HC.out, comN_end (.inl (by omega))]; rfl⟩
      have hkn : n ≤ k := by omega
      clear HC
      go_wp2_with fail
      refine wp_region_below (by kernel_rfl) (by kernel_rfl) ?_
      repeat (first | go_big_quiet_step (fail) | quiet_step (fail))
      refine wpQuiet_nil ?_
      rintro _ ⟨pq, rfl⟩
      have HB2 := Kp.mk (HB.out.trans (pq.h.mono HB.out.size))
      go_wp2_with fail
      go_ret
      exact ⟨ret_int (by rw [HC2.out]), HB2.out⟩
end Go.Proofs.Ytinffeffffligaa.Bas
