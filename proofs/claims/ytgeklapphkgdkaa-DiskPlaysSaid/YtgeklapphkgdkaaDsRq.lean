import Derived.Test.YtgeklapphkgdkaaDsRp
set_option linter.unusedVariables false
set_option linter.unusedSimpArgs false
namespace Go.Proofs.Ytgeklapphkgdkaa.Dsk
open Go.RowKit Go.Maps

/-! ### The reference's disk: Append, where the file is there -/
theorem alloc_drew (w : World) (o : Obj) : Below w.heap.size w (w.drew.alloc o) := ((Below.refl _ _).drew).alloc (Nat.le_refl _) o
theorem own0 {w : World} {B n c : Nat} {A : Option Addr} {xs : List Int} (h : w.ownsRow B 5 1 (.slice A (0 + n) c) (0 + n) (nums .u8 ([] ++ xs))) : w.ownsRow B 5 1 (.slice A n c) n (nums .u8 xs) := by
  rw [Nat.zero_add] at h
  exact h
theorem frozen_q {w W : World} {B n c m : Nat} {q : Nat} {xs : List Value} (hb : Below w.heap.size w W) (h : w.ownsRow B 88 3 (.slice (some ⟨q, 0, none⟩) n c) m xs) (j : Nat) : W.frozen? ⟨q, j, none⟩ = false :=
  own_free3 (rrow_heap h (fun k hk => hb.block k (rrow_lt h k hk))) j
set_option maxHeartbeats 8000000 in
set_option maxRecDepth 100000 in
theorem r_append_has {w : World} {B g : Nat} {σ : DS} {S : Nat → Prop} (h : IsR w B g σ S) (nm : ByteArray) (hs : nm.size ≤ 100000) (hh0 : hasA nm.data.toList σ.files = true) {Ab : Option Addr} {m cb : Nat} {b : List Int} (hb : Rd w .u8 Ab m cb b) (hm : m ≤ 16777216) (hbS : ∀ ad, Ab = some ad → 0 < m → ¬ S ad.block) (hroom : σ.room ≤ 9223372036854775807) :
    Calls Try.prog 35 #[.pointer (some ⟨g, 0, none⟩), .string nm, .slice Ab m cb] w fun e w' => e = .returned (.int .i64 (σ.append nm b).1) ∧ PostR B g S (σ.append nm b).2 w w' := by
  obtain ⟨room, v, A, c, ps, hr⟩ := h
  obtain ⟨Av, nv, cv, rfl⟩ := hr.slice
  have HD := Kp.mk (r_down hr)
  have HE := Kp.mk (append_eq nm b hr.srt)
  have HDF := Kp.mk (down_files σ)
  have HgS := Kp.mk hr.gS
  have HB := Kp.mk hb
  have HbS := Kp.mk hbS
  have hbl := hb.len
  obtain ⟨dn, hdn⟩ : ∃ dn, dn = σ.down.1 := ⟨_, rfl⟩
  obtain ⟨ok, hok⟩ : ∃ ok, ok = nameOk nm := ⟨_, rfl⟩
  obtain ⟨hs1, hhs⟩ : ∃ b, b = hasA nm.data.toList σ.files := ⟨_, rfl⟩
  rw [← hdn, ← hok, ← hhs] at HE
  have HDN := Kp.mk hdn
  have HOK := Kp.mk hok
  have HHS := Kp.mk hhs
  have HBL := Kp.mk hbl
  clear hr hb hbS hdn hok hhs hbl
  go_enter Try.func35, Try.ntmps35
  go_wp2_with fail
  refine HD.out.mono ?_
  rintro e w1 ⟨rfl, hf1, A1, c1, hr1⟩
  rw [← HDN.out]
  have HF1 := Kp.mk hf1
  have HR1 := Kp.mk hr1
  clear hf1 hr1 HD
  cases dn
  · have HNm := Kp.mk (named_any nm hs w1)
    rw [← HOK.out] at HNm
    go_wp2_with fail
    refine HNm.out.mono ?_
    rintro e w2 ⟨rfl, hb2⟩
    have HF2 := Kp.mk (HF1.out.below hb2)
    have HR2 := Kp.mk (HR1.out.below hb2)
    clear hb2 HNm
    cases ok
    · go_wp2_with fail
      go_ret
      rw [HE.out]
      exact ⟨rfl, postR_of HF2.out HR2.out⟩
    · have HAt := Kp.mk (r_at HR2.out nm hs)
      rw [HDF.out.1, ← HHS.out] at HAt
      go_wp2_with fail
      refine HAt.out.mono ?_
      rintro e w3 ⟨rfl, hb3⟩
      have HF3 := Kp.mk (HF2.out.below hb3)
      have hr3 := HR2.out.below hb3
      clear hb3 HAt
      obtain ⟨hnv, hcv, hcells⟩ := hr3.cells
      have hmost := hr3.most
      have HR3 := Kp.mk hr3
      have HU := Kp.mk (r_used hr3)
      obtain ⟨us, hus⟩ : ∃ us, us = used σ.files := ⟨_, rfl⟩
      rw [HDF.out.1, ← hus] at HU
      have d0 := cells_top hr3.top 0 (.int .i64 room) rfl
      have d1 := cells_top hr3.top 1 (.slice Av nv cv) rfl
      have hrm : σ.room = max 0 room := by rw [← HDF.out.2]; exact hr3.room
      obtain ⟨p, hp⟩ : ∃ p, p = posA nm.data.toList σ.files := ⟨_, rfl⟩
      rw [← hp]
      have hsm := hr3.small
      rw [HDF.out.1] at hsm
      have hub := used_most _ hsm
      have hfl : σ.files.length = nv := by rw [hnv, ← List.length_map (f := fun p : PF => p.2), hr3.abs, HDF.out.1]
      rw [← hus, hfl] at hub
      rw [← hp, ← hus, HBL.out, hfl] at HE
      have hn1 : nv ≤ 1000 := by omega
      have HNV := Kp.mk hnv
      have HP := Kp.mk hp
      have HUS := Kp.mk hus
      have HFL := Kp.mk hfl
      have HRM := Kp.mk hrm
      have hwu : IntKind.i64.wrap (us + (m : Int)) = us + (m : Int) := IntWalk.i64_in _ (by omega)
      have hHE := HE.out
      rw [hrm] at hHE
      cases hs1
      · exact absurd (HHS.out.trans hh0) (by decide)
      · obtain ⟨hpl, hnp⟩ := hasA_at HHS.out.symm
        rw [← hp] at hpl hnp
        have hpn : p < nv := by
          rw [hnv, ← List.length_map (f := fun p : PF => p.2), hr3.abs, HDF.out.1]
          exact hpl
        obtain ⟨q, rfl, hqS, _, _, hcj⟩ := hcells (by omega)
        obtain ⟨nj, Aj, lj, cj, z0, z1, z2, _, hrd, hljc, hl16, hsy, _⟩ := hcj p hpn
        have hpn' : ¬ nv ≤ p := by omega
        have hlj := hrd.len
        rw [HDF.out.1] at hlj
        have hwl : IntKind.i64.wrap ((lj : Int) + (m : Int)) = (lj : Int) + (m : Int) := IntWalk.i64_in _ (by omega)
        simp only [Bool.false_eq_true, if_false, if_true, hlj] at hHE
        have HRD := Kp.mk hrd
        have HSY := Kp.mk hsy
        have HNP := Kp.mk hnp
        have HQS := Kp.mk hqS
        have fz := fun j => own_free3 hr3.own j
        have fz1 := fz (p * 3 + 1)
        have HOW := Kp.mk hr3.own
        have HPN := Kp.mk hpn
        have HB3 := Kp.mk (HB.out.kept HF3.out (fun ad e hn he => HbS.out ad e hn (by rw [he]; exact HgS.out)))
        by_cases hbig : (16777216 : Int) < (lj : Int) + (m : Int)
        · rw [if_pos (by omega)] at hHE
          have HH := Kp.mk hHE
          clear hcells hr3 hcj hHE hnv hp hus hfl hrm hub hsm hrd hlj hsy hnp hqS fz
          go_wp2_with fail
          go_ret
          rw [HH.out]
          exact ⟨rfl, postR_of HF3.out HR3.out⟩
        · rw [if_neg (by omega)] at hHE
          have HL1 : Kp (0 + lj ≤ 100000000) := ⟨by omega⟩
          have HL2 : Kp (lj + m ≤ 100000000) := ⟨by omega⟩
          have HL3 : Kp (lj + m ≤ 16777216) := ⟨by omega⟩
          rcases Int.lt_or_le room 0 with hr0 | hr0
          · have hr0' : room < 0 := hr0
            rw [show max 0 room = 0 from Int.max_eq_left (by omega)] at hHE
            by_cases hf : (0 : Int) < us + (m : Int)
            · rw [if_pos (by omega)] at hHE
              have HH := Kp.mk hHE
              clear hcells hr3 hcj hHE hnv hp hus hfl hrm hub hsm hrd hlj hsy hnp hqS fz
              go_wp2_with fail
              refine HU.out.mono ?_
              rintro e wU ⟨rfl, rfl⟩
              go_wp2_with fail
              go_ret
              rw [HH.out]
              exact ⟨rfl, postR_of HF3.out HR3.out⟩
            · rw [if_neg (by omega)] at hHE
              have HH := Kp.mk hHE
              clear hcells hr3 hcj hHE hnv hp hus hfl hrm hub hsm hrd hlj hsy hnp hqS fz
              go_wp2_with fail
              refine HU.out.mono ?_
              rintro e wU ⟨rfl, rfl⟩
              go_wp2_with fail
              go_region_law (first
                | (refine step_appb (w0 := wU) rfl (.const (.slice none 0 0)) (.tmp 97) rfl ((Below.refl _ _).drew) (.slice none 0 0) 0 lj cj [] _ Aj rfl rfl (World.ownsRow_nil _ _ _ _) (HRD.out.below ((Below.refl _ _).drew)) HL1.out ?_
                   intro A4 c4 w4 h1 h2
                   have d4 := cell_kept h1 z1
                   have d5 := cell_kept h1 d1
                   have HB4 := Kp.mk h1
                   have HO4 := Kp.mk (own0 h2)
                   clear h1 h2)
                | (refine step_appb (w0 := wU) rfl (.tmp 98) (.tmp 99) rfl HB4.out _ lj m cb _ b Ab rfl rfl HO4.out (HB3.out.below HB4.out) HL2.out ?_
                   intro A5 c5 w5 h1 h2
                   have d6 := cell_kept h1 z1
                   have d7 := cell_kept h1 d1
                   have f7 := frozen_q h1 HOW.out (p * 3 + 1)
                   have HB5 := Kp.mk h1
                   have HO5 := Kp.mk h2
                   clear h1 h2))
              all_goals
                go_wp2_with fail
                go_ret
                rw [HH.out]
                obtain ⟨ps5, _, h5⟩ := HR3.out.bytes HPN.out HB5.out HO5.out HL3.out (by have := HSY.out; omega)
                simp only [HDF.out.1, HNP.out] at h5
                exact ⟨rfl, ⟨⟨_, _, _, _, _, h5.mono (fun k _ hk => hk.imp id (fun h => Nat.le_trans HF3.out.size h))⟩, ((HF3.out.below HB5.out).mono (fun k _ hk => by rw [hk]; exact HgS.out)).setCell (a := ⟨q, p * 3 + 1, none⟩) (.inl HQS.out) _⟩⟩
          · have hr0' : ¬ room < 0 := by omega
            rw [show max 0 room = room from Int.max_eq_right (by omega)] at hHE
            by_cases hf : room < us + (m : Int)
            · rw [if_pos (by omega)] at hHE
              have HH := Kp.mk hHE
              clear hcells hr3 hcj hHE hnv hp hus hfl hrm hub hsm hrd hlj hsy hnp hqS fz
              go_wp2_with fail
              refine HU.out.mono ?_
              rintro e wU ⟨rfl, rfl⟩
              go_wp2_with fail
              go_ret
              rw [HH.out]
              exact ⟨rfl, postR_of HF3.out HR3.out⟩
            · rw [if_neg (by omega)] at hHE
              have HH := Kp.mk hHE
              clear hcells hr3 hcj hHE hnv hp hus hfl hrm hub hsm hrd hlj hsy hnp hqS fz
              go_wp2_with fail
              refine HU.out.mono ?_
              rintro e wU ⟨rfl, rfl⟩
              go_wp2_with fail
              go_region_law (first
                | (refine step_appb (w0 := wU) rfl (.const (.slice none 0 0)) (.tmp 97) rfl ((Below.refl _ _).drew) (.slice none 0 0) 0 lj cj [] _ Aj rfl rfl (World.ownsRow_nil _ _ _ _) (HRD.out.below ((Below.refl _ _).drew)) HL1.out ?_
                   intro A4 c4 w4 h1 h2
                   have d4 := cell_kept h1 z1
                   have d5 := cell_kept h1 d1
                   have HB4 := Kp.mk h1
                   have HO4 := Kp.mk (own0 h2)
                   clear h1 h2)
                | (refine step_appb (w0 := wU) rfl (.tmp 98) (.tmp 99) rfl HB4.out _ lj m cb _ b Ab rfl rfl HO4.out (HB3.out.below HB4.out) HL2.out ?_
                   intro A5 c5 w5 h1 h2
                   have d6 := cell_kept h1 z1
                   have d7 := cell_kept h1 d1
                   have f7 := frozen_q h1 HOW.out (p * 3 + 1)
                   have HB5 := Kp.mk h1
                   have HO5 := Kp.mk h2
                   clear h1 h2))
              all_goals
                go_wp2_with fail
                go_ret
                rw [HH.out]
                obtain ⟨ps5, _, h5⟩ := HR3.out.bytes HPN.out HB5.out HO5.out HL3.out (by have := HSY.out; omega)
                simp only [HDF.out.1, HNP.out] at h5
                exact ⟨rfl, ⟨⟨_, _, _, _, _, h5.mono (fun k _ hk => hk.imp id (fun h => Nat.le_trans HF3.out.size h))⟩, ((HF3.out.below HB5.out).mono (fun k _ hk => by rw [hk]; exact HgS.out)).setCell (a := ⟨q, p * 3 + 1, none⟩) (.inl HQS.out) _⟩⟩
  · go_wp2_with fail
    go_ret
    rw [HE.out]
    exact ⟨rfl, postR_of HF1.out HR1.out⟩
end Go.Proofs.Ytgeklapphkgdkaa.Dsk
