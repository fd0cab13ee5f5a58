import Derived.Test.YtinffeffffligaaBlZq
set_option linter.unusedVariables false
set_option linter.unusedSimpArgs false
namespace Go.Proofs.Ytinffeffffligaa.Bas
open Go.RowKit Go.Maps

/-! ### The law BlockBuilds -/
theorem big_short {ls : List (Nat × Nat)} (h : bigL ls = false) : ls.length ≤ 60 := by
  unfold bigL at h
  simp only [Bool.or_eq_false_iff, decide_eq_false_iff_not] at h
  omega
theorem EsW.below {w W : World} {A : Option Addr} {n c : Nat} {ls : List (Nat × Nat)} (h : EsW w A n c ls) (hb : Below w.heap.size w W) : EsW W A n c ls :=
  ⟨h.len, h.max, h.nil, fun hn => by
    obtain ⟨b, off, e, hc⟩ := h.cell hn
    refine ⟨b, off, e, fun i hi => ?_⟩
    obtain ⟨⟨A0, c0, h0⟩, A1, c1, h1⟩ := hc i hi
    exact ⟨⟨A0, c0, cell_kept hb h0⟩, A1, c1, cell_kept hb h1⟩⟩
theorem str_same (u : ByteArray) : (u.toList == u.toList) = true := by simp
set_option maxHeartbeats 4000000 in
set_option maxRecDepth 100000 in
theorem block_builds {w : World} {A : Option Addr} {n c : Nat} {ls : List (Nat × Nat)} (hw : EsW w A n c ls) (hs : bigL ls = false → ∃ es, Es w A n c es ∧ SeqE es) (st : Int) :
    Calls Try.prog 3 #[.slice A n c, .int .i64 st] w fun e w' => e = .returned (.bool true) ∧ Below w.heap.size w w' := by
  have HW := Kp.mk hw
  have HS := Kp.mk hs
  have HBig := Kp.mk (fun (W : World) (hb : Below w.heap.size w W) => big_weak (hw.below hb))
  obtain ⟨bg, hbg⟩ : ∃ bg, bg = bigL ls := ⟨_, rfl⟩
  rw [← hbg] at HBig
  have HBG := Kp.mk hbg
  clear hw hs hbg
  go_enter Try.func3, Try.ntmps3
  go_wp2_with fail
  refine (alive_any w).mono ?_
  rintro e w1 ⟨rfl, hb1⟩
  have HB1 := Kp.mk hb1
  clear hb1
  go_wp2_with fail
  refine (HBig.out _ HB1.out).mono ?_
  rintro e w2 ⟨rfl, hw2⟩
  subst hw2
  cases bg
  · obtain ⟨es, hes, hseq⟩ := HS.out HBG.out.symm
    have hl60 : es.length ≤ 60 := by
      have h1 := big_short HBG.out.symm
      have h2 := HW.out.len
      have h3 := hes.len
      omega
    have HE := Kp.mk hes
    have HSq := Kp.mk hseq
    have HBd := Kp.mk (build_any (hes.below HB1.out) hseq st)
    clear hes hseq
    go_wp2_with fail
    refine HBd.out.mono ?_
    rintro e w3 ⟨hb3, hcs⟩
    have HB3 := Kp.mk (HB1.out.trans (hb3.mono HB1.out.size))
    have HBr := Kp.mk (ref_build (HE.out.below HB3.out) HSq.out st)
    rcases hcs with ⟨hk, rfl⟩ | ⟨hk, A3, n3, c3, rfl, hnu⟩
    · obtain ⟨k, hkd⟩ : ∃ k, k = chkB es := ⟨_, rfl⟩
      have hkn : k ≠ 0 := by rw [hkd]; exact hk
      have hne : (k == 0) = false := by simpa using hkn
      have hne2 : (k != 0) = true := by simpa using hkn
      have HK := Kp.mk hkd
      rw [← hkd]
      clear hk hb3 hkd hkn
      go_wp2_with fail
      refine HBr.out.mono ?_
      rintro e w4 ⟨hb4, (⟨_, rfl⟩ | ⟨hk2, _⟩)⟩
      · rw [← HK.out]
        have HB4 := Kp.mk (HB3.out.trans (hb4.mono HB3.out.size))
        have s1 := rd_string (Rd.nil0 w4 .u8)
        have HAl := Kp.mk (block_all (Rd.nil0 w4 .u8) (Nat.le_refl _) (fun x hx => by cases hx) (by omega))
        clear hb4
        go_wp2_with (first
          | (go_at_call 13; refine (num_any _ _).mono ?_; rintro e w5 ⟨rfl, hw5⟩; subst hw5)
          | (go_at_call 14; refine HAl.out.mono ?_; rintro e w5 ⟨hb5, hc5⟩; have HB5 := Kp.mk (HB4.out.trans (hb5.mono HB4.out.size)); have hu : ∃ v r, e = .returned (.tuple #[v, .int .i64 r]) := (by rcases hc5 with ⟨cc, _, rfl⟩ | ⟨v, ps, s, _, rfl, _⟩ <;> exact ⟨_, _, rfl⟩); obtain ⟨v5, r5, rfl⟩ := hu; clear hb5 hc5))
        go_ret
        exact ⟨rfl, HB5.out⟩
      · exact absurd hk2 (by rw [← HK.out]; intro e; rw [e] at hne; simp at hne)
    · have HNu := Kp.mk hnu
      have HK := Kp.mk hk
      clear hk hnu hb3
      go_wp2_with fail
      refine HBr.out.mono ?_
      rintro e w4 ⟨hb4, (⟨hk2, _⟩ | ⟨_, A4, n4, c4, rfl, hnu4⟩)⟩
      · exact absurd HK.out hk2
      · have hI := built_is HE.out HSq.out HK.out st
        have hsm := build_small hI.good (clampN st) hl60
        have HB4 := Kp.mk (HB3.out.trans (hb4.mono HB3.out.size))
        obtain ⟨u, hu⟩ : ∃ u, u = strOfNums (buildB (clampN st) es) := ⟨_, rfl⟩
        have s1 := rd_string ((HNu.out.below hb4).rd (by omega)).2.1
        have s2 := rd_string (hnu4.rd (by omega)).2.1
        rw [← hu] at s1 s2
        have hss := str_same u
        have HAl := Kp.mk (all_built hnu4 hI hl60 HE.out.len)
        clear hb4 hnu4 hu hI hsm
        go_wp2_with (first
          | (go_at_call 13; refine (num_any _ _).mono ?_; rintro e w5 ⟨rfl, hw5⟩; subst hw5)
          | (go_at_call 14; refine HAl.out.mono ?_; rintro e w5 ⟨A5, c5, rfl, he5, hb5⟩; have HE5 := Kp.mk he5; have HB5 := Kp.mk (HB4.out.trans (hb5.mono HB4.out.size)); clear he5 hb5)
          | (go_at_call 15; refine (same_entries (HE.out.below HB5.out) HE5.out).mono ?_; rintro e w6 ⟨rfl, hb6⟩; have HB6 := Kp.mk (HB5.out.trans (hb6.mono HB5.out.size)); clear hb6))
        go_ret
        exact ⟨rfl, HB6.out⟩
  · go_wp2_with fail
    go_ret
    exact ⟨rfl, HB1.out⟩
end Go.Proofs.Ytinffeffffligaa.Bas
