import Derived.Test.YtinffeffffligaaBlZr
import Derived.Test.YtinffeffffligaaBlZu
set_option linter.unusedVariables false
set_option linter.unusedSimpArgs false
namespace Go.Proofs.Ytinffeffffligaa.Bas
open Go.RowKit Go.Maps

/-! ### The law BlockShort -/
theorem clamp_id {s : Nat} (h1 : 1 ≤ s) (h2 : s ≤ 100) : clampN (s : Int) = s := by
  unfold clampN
  rw [if_neg (by omega), if_neg (by omega)]
  rfl
set_option maxHeartbeats 4000000 in
set_option maxRecDepth 100000 in
theorem block_short {w : World} {A : Option Addr} {n c : Nat} {ls : List (Nat × Nat)} (hw : EsW w A n c ls) (hs : bigL ls = false → ∃ es, Es w A n c es ∧ SeqE es) (a b : Int) :
    Calls Try.prog 5 #[.slice A n c, .int .i64 a, .int .i64 b] w fun e w' => e = .returned (.bool true) ∧ Below w.heap.size w w' := by
  have HW := Kp.mk hw
  have HS := Kp.mk hs
  have HBig := Kp.mk (fun (W : World) (hb : Below w.heap.size w W) => big_weak (hw.below hb))
  obtain ⟨bg, hbg⟩ : ∃ bg, bg = bigL ls := ⟨_, rfl⟩
  rw [← hbg] at HBig
  have HBG := Kp.mk hbg
  clear hw hs hbg
  go_enter Try.func5, Try.ntmps5
  go_wp2_with fail
  refine (alive_any w).mono ?_
  rintro e w1 ⟨rfl, hb1⟩
  have HB1 := Kp.mk hb1
  clear hb1
  go_wp2_with fail
  refine (HBig.out _ HB1.out).mono ?_
  rintro e w2 ⟨rfl, hw2⟩
  subst hw2
  cases bg
  · by_cases ha : a < 1
    · go_wp2_with fail
      go_ret
      exact ⟨rfl, HB1.out⟩
    by_cases hab : b < a
    · go_wp2_with fail
      go_ret
      exact ⟨rfl, HB1.out⟩
    by_cases h100 : 100 < b
    · go_wp2_with fail
      go_ret
      exact ⟨rfl, HB1.out⟩
    obtain ⟨an, rfl⟩ := Int.eq_ofNat_of_zero_le (show 0 ≤ a by omega)
    obtain ⟨bn, rfl⟩ := Int.eq_ofNat_of_zero_le (show 0 ≤ b by omega)
    obtain ⟨m, hm⟩ : ∃ m, m = bn % an := ⟨_, rfl⟩
    have hw1 : IntKind.i64.wrap ((bn : Int).tmod (an : Int)) = (m : Int) := by
      rw [hm, ← Int.ofNat_tmod]
      exact IntWalk.i64_in _ (by have := Nat.mod_lt bn (show 0 < an by omega); constructor <;> simp <;> omega)
    have hw2 : (bn : Int).tmod (an : Int) = (m : Int) := by rw [hm, ← Int.ofNat_tmod]
    have hw3 : (bn : Int) % (an : Int) = (m : Int) := by rw [hm]; rfl
    have hane : ((an : Int) == 0) = false := by rw [beq_eq_false_iff_ne]; omega
    by_cases hm0 : m = 0
    · obtain ⟨es, hes, hseq⟩ := HS.out HBG.out.symm
      have hl60 : es.length ≤ 60 := by
        have h1 := big_short HBG.out.symm
        have h2 := HW.out.len
        have h3 := hes.len
        omega
      have HE := Kp.mk hes
      have HSq := Kp.mk hseq
      have HBa := Kp.mk (build_any (hes.below HB1.out) hseq (an : Int))
      have HM : Kp (bn % an = 0) := ⟨by rw [← hm]; exact hm0⟩
      subst hm0
      clear hes hseq hm
      go_wp2_with fail
      refine HBa.out.mono ?_
      rintro e w3 ⟨hb3, hcs⟩
      have HB3 := Kp.mk (HB1.out.trans (hb3.mono HB1.out.size))
      have HBb := Kp.mk (build_any (HE.out.below HB3.out) HSq.out (bn : Int))
      rcases hcs with ⟨hk, rfl⟩ | ⟨hk, A3, n3, c3, rfl, hnu⟩
      · obtain ⟨k, hkd⟩ : ∃ k, k = chkB es := ⟨_, rfl⟩
        have hkn : k ≠ 0 := by rw [hkd]; exact hk
        have hne : (k == 0) = false := by simpa using hkn
        have hne2 : (k != 0) = true := by simpa using hkn
        have HK := Kp.mk hkd
        rw [← hkd]
        clear hk hb3 hkd hkn HBa HBig
        go_wp2_with fail
        refine HBb.out.mono ?_
        rintro e w4 ⟨hb4, (⟨_, rfl⟩ | ⟨hk2, _⟩)⟩
        · rw [← HK.out]
          have HB4 := Kp.mk (HB3.out.trans (hb4.mono HB3.out.size))
          clear hb4 HBb
          go_wp2_with (go_at_call 13; refine (num_any _ _).mono ?_; rintro e w5 ⟨rfl, hw5⟩; subst hw5)
          go_ret
          exact ⟨rfl, HB4.out⟩
        · exact absurd hk2 (by rw [← HK.out]; intro e; rw [e] at hne; simp at hne)
      · rw [clamp_id (by omega) (by omega)] at hnu
        have hIa := built_is HE.out HSq.out hk (an : Int)
        rw [clamp_id (by omega) (by omega)] at hIa
        have hIb := built_is HE.out HSq.out hk (bn : Int)
        rw [clamp_id (by omega) (by omega)] at hIb
        have hsa := build_small hIa.good an hl60
        have hsb := build_small hIb.good bn hl60
        have hn3 := (hnu.rd (by omega)).1
        have HNu := Kp.mk hnu
        have HK := Kp.mk hk
        have HIa := Kp.mk hIa
        have HIb := Kp.mk hIb
        have Hn3 := Kp.mk hn3
        clear hk hnu hb3 HBa HBig hIa hIb hn3
        go_wp2_with fail
        refine HBb.out.mono ?_
        rintro e w4 ⟨hb4, (⟨hk2, _⟩ | ⟨_, A4, n4, c4, rfl, hnu4⟩)⟩
        · exact absurd HK.out hk2
        · rw [clamp_id (by omega) (by omega)] at hnu4
          have hn4 := (hnu4.rd (by omega)).1
          have hle : n4 ≤ n3 := by rw [hn4, Hn3.out]; exact build_shorter HM.out es
          have hle' : (n4 : Int) ≤ (n3 : Int) := by omega
          have HB4 := Kp.mk (HB3.out.trans (hb4.mono HB3.out.size))
          have HAa := Kp.mk (all_built (HNu.out.below hb4) HIa.out hl60 HE.out.len)
          have HNb := Kp.mk hnu4
          clear hb4 hnu4 hn4 HBb
          go_wp2_with (first
            | (go_at_call 13; refine (num_any _ _).mono ?_; rintro e w5 ⟨rfl, hw5⟩; subst hw5)
            | (go_at_call_of 14 (Value.slice A3 n3 c3); refine HAa.out.mono ?_; rintro e w5 ⟨A5, c5, rfl, he5, hb5⟩; have HE5 := Kp.mk he5; have HB5 := Kp.mk (HB4.out.trans (hb5.mono HB4.out.size)); have HAb := Kp.mk (all_built (HNb.out.below hb5) HIb.out hl60 HE.out.len); clear he5 hb5)
            | (go_at_call_of 14 (Value.slice A4 n4 c4); refine HAb.out.mono ?_; rintro e w6 ⟨A6, c6, rfl, he6, hb6⟩; have HE6 := Kp.mk he6; have HB6 := Kp.mk (HB5.out.trans (hb6.mono HB5.out.size)); have HE56 := Kp.mk (HE5.out.below hb6); clear he6 hb6)
            | (go_at_call 15; refine (same_entries HE56.out HE6.out).mono ?_; rintro e w7 ⟨rfl, hb7⟩; have HB7 := Kp.mk (HB6.out.trans (hb7.mono HB6.out.size)); clear hb7))
          go_ret
          exact ⟨rfl, HB7.out⟩
    · have hm1 : ((m : Int) == 0) = false := by rw [beq_eq_false_iff_ne]; omega
      have hm2 : ((m : Int) != 0) = true := by rw [bne_iff_ne]; omega
      clear hm
      go_wp2_with fail
      go_ret
      exact ⟨rfl, HB1.out⟩
  · go_wp2_with fail
    go_ret
    exact ⟨rfl, HB1.out⟩
end Go.Proofs.Ytinffeffffligaa.Bas
