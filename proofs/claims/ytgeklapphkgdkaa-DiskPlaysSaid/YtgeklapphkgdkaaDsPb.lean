import Derived.Test.YtgeklapphkgdkaaDsPa
set_option linter.unusedVariables false
set_option linter.unusedSimpArgs false
namespace Go.Proofs.Ytgeklapphkgdkaa.Dsk
open Go.RowKit Go.Maps Go.Sort Go.Shelf

/-! ### Same: both tell the same -/
theorem row_below {w W : World} {B e n size : Nat} {v : Value} {xs : List Value} (h : w.ownsRow B e size v n xs) (hb : Below w.heap.size w W) : W.ownsRow B e size v n xs :=
  rrow_heap h (fun k hk => hb.block k (rrow_lt h k hk))
set_option maxHeartbeats 4000000 in
set_option maxRecDepth 100000 in
theorem same_any {w : World} {B B' g g' : Nat} {σ : DS} {S S' : Nat → Prop} (h : Two w B B' g g' σ S S') (nm : ByteArray) (hs : nm.size ≤ 100000) :
    Calls Try.prog 27 #[.pointer (some ⟨g, 0, none⟩), .pointer (some ⟨g', 0, none⟩), .string nm] w fun e w' => e = .returned (.bool true) ∧ Post2 B B' g g' S S' w w' := by
  have H := Kp.mk h
  have HZ := Kp.mk (size_any w B g σ S nm h.1 hs)
  have HZR := Kp.mk (fun (w1 : World) (h1 : IsR w1 B' g' σ S') => r_size h1 nm hs)
  have HRM := Kp.mk (size_room σ nm)
  obtain ⟨r, hr⟩ : ∃ r, r = σ.size nm := ⟨_, rfl⟩
  rw [← hr] at HZ HRM
  simp only [← hr] at HZR
  obtain ⟨e0, σ2, n0⟩ := r
  simp only at HZ HZR HRM
  clear h hr
  go_enter Try.func27, Try.ntmps27
  go_wp2_with fail
  refine HZ.out.mono ?_
  rintro e w1 ⟨rfl, hp1⟩
  have HP1 := Kp.mk hp1
  have HH := Kp.mk (half_of H.out hp1 HRM.out)
  clear hp1 HZ
  go_wp2_with fail
  refine (HZR.out w1 HH.out.2.1).mono ?_
  rintro e w2 ⟨rfl, hp2⟩
  have HP2 := Kp.mk (post2_of H.out HP1.out HRM.out (Below.refl _ _) hp2)
  have HT := Kp.mk (two_of HH.out hp2)
  clear hp2 HZR
  have cu := IsDisk.used HT.out.1
  have cf := IsDisk.failed HT.out.1
  have HU : Kp (Calls Try.prog 44 #[.pointer (some ⟨g', 0, none⟩)] w2 fun e w' => e = .returned (.int .i64 (used σ2.files)) ∧ w' = w2) := ⟨by
    obtain ⟨room, v, A, c, ps, hr⟩ := HT.out.2.1
    exact r_used hr⟩
  have HF := Kp.mk (r_failed HT.out.2.1)
  have HL := Kp.mk (list_any2 w2 B g σ2 _ HT.out.1 HT.out.2.1.srt)
  have hmost := HT.out.2.1.most
  obtain ⟨us, hus⟩ : ∃ us, us = used σ2.files := ⟨_, rfl⟩
  obtain ⟨fl, hfl⟩ : ∃ fl, fl = σ2.failed := ⟨_, rfl⟩
  obtain ⟨ln, hln⟩ : ∃ ln, ln = σ2.files.length := ⟨_, rfl⟩
  obtain ⟨ns, hns⟩ : ∃ ns, ns = namesOf σ2.files := ⟨_, rfl⟩
  have HLN := Kp.mk hln
  have HNS := Kp.mk hns
  rw [← hus] at cu HU
  rw [← hfl] at cf HF
  rw [← hln, ← hns] at HL
  rw [← hln] at hmost
  clear hus hfl hln hns
  go_wp2_with fail
  refine (num_any _ _).mono ?_
  rintro e w' ⟨rfl, rfl⟩
  go_wp2_with fail
  refine (used_any _ _ _ cu).mono ?_
  rintro e w' ⟨rfl, rfl⟩
  go_wp2_with fail
  refine HU.out.mono ?_
  rintro e w' ⟨rfl, hw⟩
  subst hw
  go_wp2_with fail
  refine (failed_any _ _ _ cf).mono ?_
  rintro e w' ⟨rfl, hw⟩
  subst hw
  go_wp2_with fail
  refine HF.out.mono ?_
  rintro e w' ⟨rfl, hw⟩
  subst hw
  go_wp2_with fail
  refine HL.out.mono ?_
  rintro e w3 ⟨A3, c3, rfl, hrow3, hb3⟩
  have HB3 := Kp.mk hb3
  have HR3 := Kp.mk hrow3
  have HL2 := Kp.mk (r_list (HT.out.below hb3).2.1)
  rw [← HLN.out, ← HNS.out] at HL2
  clear hb3 hrow3 cu cf
  go_wp2_with fail
  refine HL2.out.mono ?_
  rintro e w4 ⟨A4, c4, rfl, hrow4, hb4⟩
  have HB4 := Kp.mk hb4
  have HS := Kp.mk (same_texts (row_below HR3.out hb4) hrow4 (by omega))
  clear hb4 hrow4
  go_wp2_with fail
  refine HS.out.mono ?_
  rintro e w5 ⟨rfl, hb5⟩
  have HB5 := Kp.mk hb5
  clear hb5 HS
  go_wp2_with fail
  go_ret
  exact ⟨rfl, ((HP2.out.then HB3.out).then HB4.out).then HB5.out⟩
end Go.Proofs.Ytgeklapphkgdkaa.Dsk
