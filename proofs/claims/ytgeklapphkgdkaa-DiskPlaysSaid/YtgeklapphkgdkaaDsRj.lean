import Derived.Test.YtgeklapphkgdkaaDsRi
set_option linter.unusedVariables false
set_option linter.unusedSimpArgs false
namespace Go.Proofs.Ytgeklapphkgdkaa.Dsk
open Go.RowKit Go.Maps Go.Sort Go.Shelf

/-! ### Both lists of names are one -/
theorem row_str {w : World} {B n c : Nat} {A : Option Addr} {ns : List (List UInt8)} (h : w.ownsRow B 9 1 (.slice A n c) n (ns.map encStr)) (hn : 0 < n) : ∃ q, A = some ⟨q, 0, none⟩ ∧ n = ns.length ∧ ∀ j, j < n → w.cell? ⟨q, j, none⟩ = some (encStr (ns.getD j [])) := by
  have hl : n = ns.length := by have := h.1; rw [List.length_map] at this; omega
  rcases h.2 with ⟨e1, e2⟩ | ⟨q, cap, cur, e1, hB, hh, h3, h4, h5, h6⟩
  · omega
  · injection e1 with e1 e3 e4
    subst e1 e4
    refine ⟨q, rfl, hl, fun j hj => ?_⟩
    have := h.cells (g := q) rfl j (encStr (ns.getD j [])) (by simp [List.getD, show j < ns.length by omega])
    rw [Addr.add_lit, Nat.zero_add] at this
    exact this
set_option maxHeartbeats 2000000 in
set_option maxRecDepth 100000 in
theorem same_texts {w : World} {B B' n c d : Nat} {A A' : Option Addr} {ns : List (List UInt8)} (h : w.ownsRow B 9 1 (.slice A n c) n (ns.map encStr)) (g : w.ownsRow B' 9 1 (.slice A' n d) n (ns.map encStr)) (hn : n ≤ 100000) :
    Calls Try.prog 46 #[.slice A n c, .slice A' n d] w fun e w' => e = .returned (.bool true) ∧ Below w.heap.size w w' := by
  have H := Kp.mk (row_str h)
  have G := Kp.mk (row_str g)
  clear h g
  go_enter Try.func46, Try.ntmps46
  go_wp2_with fail
  go_loopw [5] (fun i wr => ∃ k : Nat, k ≤ n ∧ i = .int .i64 k ∧ Kp (Below w.heap.size w wr)) (fun i _ => n - (intOf i).toNat)
  case atStart => exact ⟨0, Nat.zero_le _, rfl, ⟨Below.refl _ _⟩⟩
  case round =>
    obtain ⟨k, hk, rfl, HB⟩ := hrel
    by_cases hlt : k < n
    · obtain ⟨q, rfl, _, c1⟩ := H.out (by omega)
      obtain ⟨q', rfl, _, c2⟩ := G.out (by omega)
      have d1 := blw_cell (cell_kept HB.out (c1 k hlt))
      have d2 := blw_cell (cell_kept HB.out (c2 k hlt))
      obtain ⟨s, hs⟩ : ∃ s : ByteArray, encStr (ns.getD k []) = .string s := ⟨_, rfl⟩
      rw [hs] at d1 d2
      have hss : (s.toList == s.toList) = true := by simp
      have hlt' : ¬ n ≤ k := by omega
      clear c1 c2 hs
      go_wp2_with fail
      refine wp_region_below (by kernel_rfl) (by kernel_rfl) ?_
      repeat (first | go_big_quiet_step (fail) | quiet_step (fail))
      refine wpQuiet_nil ?_
      rintro _ ⟨pz, rfl⟩
      have HB1 := Kp.mk (HB.out.trans (pz.h.mono HB.out.size))
      go_wp2_with fail
      go_roundw
      case rel => exact ⟨k + 1, by omega, by go_num, HB1⟩
      case measure => simp [intOf]; omega
    · go_wp2_with fail
      go_ret
      exact ⟨rfl, HB.out⟩
theorem less_lt (x y : List UInt8) : bytesBefore x y = decide (x < y) := by rw [← less_before]; exact bytesLess_eq x y
theorem srt_names {fs : AF} (h : Srt fs) : (namesOf fs).Pairwise (fun x y => decide (x ≤ y) = true) := by
  unfold namesOf
  rw [List.pairwise_map]
  refine List.Pairwise.imp ?_ h
  intro a b hab
  rw [less_lt] at hab
  exact decide_eq_true (List.le_of_lt (of_decide_eq_true hab))
theorem sorted_names {fs : AF} (h : Srt fs) {ss : List (List UInt8)} (hp : ss.Perm (fs.map (·.1))) : ss.mergeSort (fun x y => decide (x ≤ y)) = namesOf fs := by
  have h1 : (ss.mergeSort (fun x y => decide (x ≤ y))).Pairwise (fun x y => decide (x ≤ y) = true) :=
    List.pairwise_mergeSort (le := fun x y : List UInt8 => decide (x ≤ y)) (fun a b c hab hbc => decide_eq_true (List.le_trans (of_decide_eq_true hab) (of_decide_eq_true hbc))) (fun a b => by
      rcases List.le_total a b with h | h
      · simp [h]
      · simp [h]) ss
  refine List.Perm.eq_of_pairwise (fun a b _ _ hab hba => ?_) h1 (srt_names h) ((List.mergeSort_perm ss _).trans hp)
  exact List.le_antisymm (of_decide_eq_true hab) (of_decide_eq_true hba)
end Go.Proofs.Ytgeklapphkgdkaa.Dsk
