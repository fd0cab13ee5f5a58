import Derived.Test.YtinffeffffligaaBlZr
import Derived.Test.YtinffeffffligaaBlZu
import Derived.Test.YtinffeffffligaaBlZw
set_option linter.unusedVariables false
set_option linter.unusedSimpArgs false
namespace Go.Proofs.Ytinffeffffligaa.Bas
open Go.RowKit Go.Maps

/-! ### The law BlockRestarts -/
theorem clamp_id2 {s : Nat} (h1 : 1 ≤ s) (h2 : s ≤ 100) : clampN (s : Int) = s := by
  unfold clampN
  rw [if_neg (by omega), if_neg (by omega)]
  rfl
set_option maxHeartbeats 8000000 in
set_option maxRecDepth 100000 in
theorem block_restarts_law {w : World} {A : Option Addr} {n c : Nat} {ls : List (Nat × Nat)} (hw : EsW w A n c ls) (hm : (∃ es, Es w A n c es ∧ SeqE es) ∨ (∀ W, Below w.heap.size w W → ∀ st, Calls Try.prog 12 #[.slice A n c, .int .i64 st] W (BErrP W)))
    (st : Int) :
    Calls Try.prog 6 #[.slice A n c, .int .i64 st] w fun e w' => e = .returned (.bool true) ∧ Below w.heap.size w w' := by
  obtain ⟨es0, hes0, hbd⟩ := bd_any hm st
  have HW := Kp.mk hw
  have HES := Kp.mk hes0
  have HBD := Kp.mk hbd
  have HBig := Kp.mk (fun (W : World) (hb : Below w.heap.size w W) => big_weak (hw.below hb))
  obtain ⟨bg, hbg⟩ : ∃ bg, bg = bigL ls := ⟨_, rfl⟩
  rw [← hbg] at HBig
  have HBG := Kp.mk hbg
  clear hw hm hes0 hbd hbg
  go_enter Try.func6, Try.ntmps6
  go_wp2_with fail
  refine (alive_any w).mono ?_
  rintro e w1 ⟨rfl, hb1⟩
  have HB1 := Kp.mk hb1
  clear hb1
  go_wp2_with fail
  refine (HBig.out _ HB1.out).mono ?_
  rintro e w2 ⟨rfl, hw2⟩
  subst hw2
  go_wp2_with fail
  refine (HBD.out _ HB1.out).mono ?_
  rintro e w3 ⟨hb3, hcs⟩
  have HB3 := Kp.mk (HB1.out.trans (hb3.mono HB1.out.size))
  clear HBig HBD
  rcases hcs with ⟨r, hr, rfl⟩ | ⟨es, he0, hchk, A3, n3, c3, rfl, hnu⟩
  · have h1 : (r == 0) = false := by simpa using hr
    have h2 : (r != 0) = true := by simpa using hr
    clear hr hb3
    cases bg
    · go_wp2_with fail
      go_ret
      exact ⟨rfl, HB3.out⟩
    · go_wp2_with fail
      go_ret
      exact ⟨rfl, HB3.out⟩
  · obtain ⟨hes, hseq⟩ := HES.out es he0
    cases bg
    · by_cases hs1 : st < 1
      · clear hb3 hnu
        go_wp2_with fail
        go_ret
        exact ⟨rfl, HB3.out⟩
      by_cases hs2 : 100 < st
      · clear hb3 hnu
        go_wp2_with fail
        go_ret
        exact ⟨rfl, HB3.out⟩
      obtain ⟨s, rfl⟩ := Int.eq_ofNat_of_zero_le (show 0 ≤ st by omega)
      have hl60 : es.length ≤ 60 := by
        have h1 := big_short HBG.out.symm
        have h2 := HW.out.len
        have h3 := hes.len
        omega
      have hI := built_is hes hseq hchk (s : Int)
      rw [clamp_id2 (by omega) (by omega)] at hI hnu
      have hsm := build_small hI.good s hl60
      obtain ⟨hn3, hr3, _⟩ := hnu.rd (by omega)
      have HRs := Kp.mk (block_restarts hr3 hnu.cap (buildB_byt hI.good s) (by omega))
      have HI := Kp.mk hI
      have HLN := Kp.mk hes.len
      have hnm := hes.max
      have HNb := Kp.mk hnu
      have HN3 := Kp.mk hn3
      have hn60 : n ≤ 60 := by have := hes.len; omega
      clear hes hseq hI hsm hn3 hr3 hnu hb3 he0 hchk
      go_wp2_with fail
      refine HRs.out.mono ?_
      rintro e w4 ⟨hb4, (⟨cc, hbad, rfl⟩ | ⟨v, es', s', hI', rfl, hnu4⟩)⟩
      · exact (hbad.not HI.out).elim
      · obtain rfl := HI.out.one hI'
        have HB4 := Kp.mk (HB3.out.trans (hb4.mono HB3.out.size))
        have hen : endsB s' es es.length = endsB s es es.length := hI'.fit.ends.symm.trans HI.out.fit.ends
        rw [hen] at hnu4
        have HNb4 := Kp.mk (HNb.out.below hb4)
        obtain ⟨A4, c4, e4⟩ := hnu4.slice
        subst e4
        rw [intsN_len] at hnu4 ⊢
        obtain ⟨nr, hnr⟩ : ∃ nr, nr = (endsB s es es.length).length := ⟨_, rfl⟩
        rw [← hnr] at hnu4 ⊢
        have hnrm : nr = (n + s - 1) / s := by rw [hnr, endsB_mult, multB_len (by omega), HLN.out]
        have hnr60 : nr ≤ 60 := by have := endsB_len s es es.length; omega
        obtain ⟨m, hm⟩ : ∃ m, m = n + s - 1 := ⟨_, rfl⟩
        have hw1 : IntKind.i64.wrap ((n : Int) + (s : Int)) = ((n + s : Nat) : Int) := (IntWalk.i64_in _ (by omega)).trans (by omega)
        have hw2 : IntKind.i64.wrap (((n + s : Nat) : Int) - 1) = (m : Int) := (IntWalk.i64_in _ (by omega)).trans (by omega)
        have hw2' : IntKind.i64.wrap ((n : Int) + (s : Int) - 1) = (m : Int) := (IntWalk.i64_in _ (by omega)).trans (by omega)
        have hw3 : (m : Int).tdiv (s : Int) = (nr : Int) := by rw [hnrm, ← hm]; exact (Int.ofNat_tdiv m s).symm
        have hw3' : (m : Int) / (s : Int) = (nr : Int) := by rw [hnrm, ← hm]; rfl
        have hw4 : IntKind.i64.wrap ((m : Int).tdiv (s : Int)) = (nr : Int) := by rw [hw3]; exact IntWalk.i64_in _ (by omega)
        have hsne : ((s : Int) == 0) = false := by rw [beq_eq_false_iff_ne]; omega
        have HNu := Kp.mk hnu4
        have HNR := Kp.mk hnr
        have HRD := Kp.mk ((hnu4.rd (by rw [intsN_len]; omega)).2.1)
        clear hb4 hen hnu4 hnr hnrm hm hI' HRs
        go_wp2_with (go_at_call 13; refine (num_any _ _).mono ?_; rintro e w5 ⟨rfl, hw5⟩; subst hw5)
        go_loopw [11] (fun i wr => ∃ j : Nat, i = .int .i64 (j : Nat) ∧ j ≤ nr ∧ Kp (Below w5.heap.size w5 wr)) (fun i _ => nr - (intOf i).toNat)
        case atStart => exact ⟨0, rfl, Nat.zero_le _, ⟨Below.refl _ _⟩⟩
        case round =>
          obtain ⟨j, rfl, hj, HBr⟩ := hrel
          by_cases hlt : j < nr
          · obtain ⟨x, hx⟩ : ∃ x, x = (endsB s es es.length).getD j 0 := ⟨_, rfl⟩
            have hs1' : 1 ≤ s := by omega
            have hje : j < (endsB s es es.length).length := by have := HNR.out; omega
            obtain ⟨hxl, hx0⟩ := ends_byte hs1' es hje
            rw [← hx] at hxl hx0
            rw [← HN3.out] at hxl
            obtain ⟨qr, hAr, hcr⟩ := HNu.out.cells (by omega)
            obtain ⟨qb, hAb, hcb⟩ := HNb4.out.cells (by omega)
            subst hAr
            subst hAb
            have r0 := cell_kept HBr.out (hcr j hlt)
            rw [intsN_get _ hje, ← hx] at r0
            have b0 := cell_kept HBr.out (hcb x hxl)
            rw [hx0] at b0
            have br0 := blw_cell r0
            have bb0 := blw_cell b0
            have hjn : ¬ nr ≤ j := by omega
            have hxn : ¬ n3 ≤ x := by omega
            by_cases hj0 : j = 0
            · have hxz : x = 0 := by rw [hx, (ends_get hs1' es es.length hje).1, hj0, Nat.zero_mul]; rfl
              have g1 : ¬ 0 < j := by omega
              have g2 : ((j : Int) == 0) = true := by rw [beq_iff_eq]; omega
              have g3 : ((x : Int) != 0) = false := by rw [bne_eq_false_iff_eq]; omega
              have g4 : ((x : Int) == 0) = true := by rw [beq_iff_eq]; omega
              clear hcr hcb r0 b0 hx hx0 hj0 hxz
              go_wp2_with fail
              refine wp_region_below (by kernel_rfl) (by kernel_rfl) ?_
              repeat (first | go_big_quiet_step (fail) | quiet_step (fail))
              refine wpQuiet_nil ?_
              rintro _ ⟨pz, rfl⟩
              have HBz := Kp.mk (HBr.out.trans (pz.h.mono HBr.out.size))
              go_wp2_with fail
              go_roundw
              case rel => exact ⟨j + 1, by go_num, by omega, HBz⟩
              case measure => simp [intOf]; omega
            · obtain ⟨q, hq⟩ : ∃ q, q = j - 1 := ⟨_, rfl⟩
              have hjq : IntKind.i64.wrap ((j : Int) - 1) = (q : Int) := (IntWalk.i64_in _ (by omega)).trans (by omega)
              have hqn : q < nr := by omega
              have hqn' : ¬ nr ≤ q := by omega
              obtain ⟨y, hy⟩ : ∃ y, y = (endsB s es es.length).getD q 0 := ⟨_, rfl⟩
              have hyx : y < x := by
                have h1 := ends_rise hs1' es es.length (i := q) (by have := HNR.out; omega)
                rw [show q + 1 = j by omega, ← hx, ← hy] at h1
                exact h1
              have r1 := cell_kept HBr.out (hcr q hqn)
              rw [intsN_get _ (by have := HNR.out; omega), ← hy] at r1
              have br1 := blw_cell r1
              have g1 : 0 < j := by omega
              have g2 : ((j : Int) == 0) = false := by rw [beq_eq_false_iff_ne]; omega
              have g3 : ¬ x ≤ y := by omega
              clear hcr hcb r0 r1 b0 hx hx0 hj0 hq hy
              go_wp2_with fail
              refine wp_region_below (by kernel_rfl) (by kernel_rfl) ?_
              repeat (first | go_big_quiet_step (fail) | quiet_step (fail))
              refine wpQuiet_nil ?_
              rintro _ ⟨pz, rfl⟩
              have HBz := Kp.mk (HBr.out.trans (pz.h.mono HBr.out.size))
              go_wp2_with fail
              go_roundw
              case rel => exact ⟨j + 1, by go_num, by omega, HBz⟩
              case measure => simp [intOf]; omega
          · obtain rfl : nr = j := by omega
            go_wp2_with fail
            go_ret
            exact ⟨rfl, HB4.out.trans (HBr.out.mono HB4.out.size)⟩
    · clear hb3 hnu
      go_wp2_with fail
      go_ret
      exact ⟨rfl, HB3.out⟩
end Go.Proofs.Ytinffeffffligaa.Bas
