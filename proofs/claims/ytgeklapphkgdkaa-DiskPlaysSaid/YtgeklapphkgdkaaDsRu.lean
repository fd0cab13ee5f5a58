import Derived.Test.YtgeklapphkgdkaaDsRq
import Derived.Deep.DeepCutAuto
set_option linter.unusedVariables false
set_option linter.unusedSimpArgs false
namespace Go.Proofs.Ytgeklapphkgdkaa.Dsk
open Go.RowKit Go.Maps

/-! ### The reference's disk: Append, where the file is not there -/
theorem sameRD {w : World} {B g : Nat} {σ σ' : DS} {S : Nat → Prop} {room : Int} {v : Value} {A : Option Addr} {c : Nat} {ps : List PF} (h : RD w B g σ S room v A c ps) (e : σ = σ') : RD w B g σ' S room v A c ps := e ▸ h
theorem getD_mid {α : Type} (a b : List α) (x d : α) {p : Nat} (h : a.length = p) : (a ++ x :: b).getD p d = x := by
  subst h
  simp [List.getD]
theorem set_mid {α : Type} (a b : List α) (x y : α) {p : Nat} (h : a.length = p) : (a ++ x :: b).set p y = a ++ y :: b := by
  subst h
  simp
theorem ins_rd {w w6 : World} {B g : Nat} {σ : DS} {S : Nat → Prop} {room : Int} {v v6 : Value} {A : Option Addr} {c p : Nat} {ps : List PF} (h : RD w B g σ S room v A c ps) {nm : ByteArray} (hs : nm.size ≤ 100000) {fs : AF} (hfs : σ.files = fs) (hp : p = posA nm.data.toList fs) (hh : hasA nm.data.toList fs = false) (hl : ps.length < 1000)
    (hB : Below w.heap.size w w6) (hO : w6.ownsRow B 88 3 v6 (ps.take p ++ [newPF nm] ++ ps.drop p).length (flat3 (ps.take p ++ [newPF nm] ++ ps.drop p))) (hV : ∀ q, v6.ownBlock = some q → w.heap.size ≤ q) :
    RD (w6.setCell ⟨g, 1, none⟩ v6) B g { σ with files := fs.take p ++ (nm.data.toList, ([], 0)) :: fs.drop p } (fun k => S k ∨ w.heap.size ≤ k) room v6 A c (ps.take p ++ [newPF nm] ++ ps.drop p) := by
  have hmap : (ps.take p ++ [newPF nm] ++ ps.drop p).map (fun p : PF => p.2) = fs.take p ++ (nm.data.toList, ([], 0)) :: fs.drop p := by
    rw [List.map_append, List.map_append, List.map_take, List.map_drop, h.abs, hfs]
    simp [newPF]
  have hmem : ∀ x ∈ ps.take p ++ [newPF nm] ++ ps.drop p, x ∈ ps ∨ x = newPF nm := fun x hx => by
    rcases List.mem_append.1 hx with hx | hx
    · rcases List.mem_append.1 hx with hx | hx
      · exact .inl (List.mem_of_mem_take hx)
      · exact .inr (List.mem_singleton.1 hx)
    · exact .inl (List.mem_of_mem_drop hx)
  have hR := h.relist hB (v' := v6) hO (fun x hx => (hmem x hx).elim (h.file x) (fun e => newPF_file w nm hs x (List.mem_singleton.2 e)))
    (fun x hx A n c hm hn => (hmem x hx).elim (fun g1 => ⟨(h.far x g1 A n c hm hn).1, (h.far x g1 A n c hm hn).2.1⟩) (fun e => by rw [e] at hm; simp [newPF] at hm))
    hV (by rw [hmap, hp]; exact srt_ins _ _ (hfs ▸ h.srt) hh) (by rw [List.length_append, List.length_append, List.length_take, List.length_drop]; simp; omega)
  rw [hmap] at hR
  exact hR
set_option maxHeartbeats 8000000 in
set_option maxRecDepth 100000 in
theorem r_append_new {w : World} {B g : Nat} {σ : DS} {S : Nat → Prop} (h : IsR w B g σ S) (nm : ByteArray) (hs : nm.size ≤ 100000) (hh0 : hasA nm.data.toList σ.files = false) {Ab : Option Addr} {m cb : Nat} {b : List Int} (hb : Rd w .u8 Ab m cb b) (hm : m ≤ 16777216) (hbS : ∀ ad, Ab = some ad → 0 < m → ¬ S ad.block) (hroom : σ.room ≤ 9223372036854775807) :
    Calls Try.prog 35 #[.pointer (some ⟨g, 0, none⟩), .string nm, .slice Ab m cb] w fun e w' => e = .returned (.int .i64 (σ.append nm b).1) ∧ PostR B g S (σ.append nm b).2 w w' := by
  obtain ⟨room, v, A, c, ps, hr⟩ := h
  obtain ⟨Av, nv, cv, rfl⟩ := hr.slice
  have HD := Kp.mk (r_down hr)
  have HE := Kp.mk (append_eq nm b hr.srt)
  have HSRT := Kp.mk hr.srt
  have HDF := Kp.mk (down_files σ)
  have HgS := Kp.mk hr.gS
  have HB := Kp.mk hb
  have HbS := Kp.mk hbS
  have hbl := hb.len
  obtain ⟨dn, hdn⟩ : ∃ dn, dn = σ.down.1 := ⟨_, rfl⟩
  obtain ⟨ok, hok⟩ : ∃ ok, ok = nameOk nm := ⟨_, rfl⟩
  rw [← hdn, ← hok, hh0] at HE
  have HDN := Kp.mk hdn
  have HOK := Kp.mk hok
  have HHS := Kp.mk hh0
  have HBL := Kp.mk hbl
  clear hr hb hbS hdn hok hh0 hbl
  go_enter Try.func35, Try.ntmps35
  go_wp2_with fail
  refine HD.out.mono ?_
  rintro e w1 ⟨rfl, hf1, A1, c1, hr1⟩
  rw [← HDN.out]
  have HF1 := Kp.mk hf1
  have HR1 := Kp.mk hr1
  clear hf1 hr1 HD
  cases dn
  · have HNm := Kp.mk (named_any nm hs w1)
    rw [← HOK.out] at HNm
    go_wp2_with fail
    refine HNm.out.mono ?_
    rintro e w2 ⟨rfl, hb2⟩
    have HF2 := Kp.mk (HF1.out.below hb2)
    have HR2 := Kp.mk (HR1.out.below hb2)
    clear hb2 HNm
    cases ok
    · go_wp2_with fail
      go_ret
      rw [HE.out]
      exact ⟨rfl, postR_of HF2.out HR2.out⟩
    · have HAt := Kp.mk (r_at HR2.out nm hs)
      rw [HDF.out.1, HHS.out] at HAt
      go_wp2_with fail
      refine HAt.out.mono ?_
      rintro e w3 ⟨rfl, hb3⟩
      have HF3 := Kp.mk (HF2.out.below hb3)
      have hr3 := HR2.out.below hb3
      clear hb3 HAt
      obtain ⟨hnv, hcv, hcells⟩ := hr3.cells
      have hmost := hr3.most
      have HR3 := Kp.mk hr3
      have HU := Kp.mk (r_used hr3)
      obtain ⟨us, hus⟩ : ∃ us, us = used σ.files := ⟨_, rfl⟩
      rw [HDF.out.1, ← hus] at HU
      have d0 := cells_top hr3.top 0 (.int .i64 room) rfl
      have d1 := cells_top hr3.top 1 (.slice Av nv cv) rfl
      obtain ⟨rm, hrm⟩ : ∃ rm, rm = max 0 room := ⟨_, rfl⟩
      have hrmr : σ.room = rm := by rw [hrm, ← HDF.out.2]; exact hr3.room
      obtain ⟨p, hp⟩ : ∃ p, p = posA nm.data.toList σ.files := ⟨_, rfl⟩
      rw [← hp]
      have hsm := hr3.small
      rw [HDF.out.1] at hsm
      have hub := used_most _ hsm
      have hfl : σ.files.length = nv := by rw [hnv, ← List.length_map (f := fun p : PF => p.2), hr3.abs, HDF.out.1]
      rw [← hus, hfl] at hub
      rw [← hp, ← hus, HBL.out, hfl, hrmr] at HE
      have hn1 : nv ≤ 1000 := by omega
      have HNV := Kp.mk hnv
      have HP := Kp.mk hp
      have HFL := Kp.mk hfl
      have HRM := Kp.mk hrm
      have hwu : IntKind.i64.wrap (us + (m : Int)) = us + (m : Int) := IntWalk.i64_in _ (by omega)
      have hHE := HE.out
      have hple : p ≤ nv := by rw [hp, ← hfl]; exact posA_le _ _
      have hrows := hr3.rows hple
      obtain ⟨Ad, hAd⟩ : ∃ Ad, (if cv = p then Av else Option.map (fun x : Addr => x.add (p * 3)) Av) = Ad := ⟨_, rfl⟩
      rw [hAd] at hrows
      have hl16 : ¬ (16777216 : Int) < (m : Int) := by omega
      simp only [Bool.false_eq_true, if_false, if_true] at hHE
      by_cases hn : (1000 : Int) ≤ (nv : Int)
      · rw [if_pos (by omega)] at hHE
        have HH := Kp.mk hHE
        clear hcells hr3 hHE hnv hp hus hfl hrm hrmr hub hsm hrows
        go_wp2_with fail
        go_ret
        rw [HH.out]
        exact ⟨rfl, postR_of HF3.out HR3.out⟩
      · rw [if_neg (by omega)] at hHE
        have hz0 : p ≤ cv := by omega
        have HHE := Kp.mk hHE
        have HTk := Kp.mk hrows.1
        have HNil := Kp.mk hrows.2.1
        have HDr := Kp.mk hrows.2.2
        have HfT : Kp (∀ p2 ∈ ps.take p, FileC w3 p2.1 p2.2) := ⟨fun p2 h2 => hr3.file p2 (List.mem_of_mem_take h2)⟩
        have HfD : Kp (∀ p2 ∈ ps.drop p, FileC w3 p2.1 p2.2) := ⟨fun p2 h2 => hr3.file p2 (List.mem_of_mem_drop h2)⟩
        have HltB : Kp (B ≤ w3.heap.size) := ⟨by have := lt_of_block hr3.top; have := hr3.gB; omega⟩
        have HlC : Kp ((ps.take p).length + [newPF nm].length ≤ 100000) := ⟨by rw [List.length_take]; simp; omega⟩
        have HfT2 : Kp (∀ o : Obj, ∀ p2 ∈ ps.take p, FileC (w3.drew.alloc o) p2.1 p2.2) := ⟨fun o p2 h2 => (HfT.out p2 h2).kept (Fr.of_below (S := fun _ => False) (alloc_drew w3 o)) (fun _ _ _ _ _ h => h)⟩
        have HltB2 : Kp (∀ o : Obj, B ≤ (w3.drew.alloc o).heap.size) := ⟨fun o => Nat.le_trans HltB.out (alloc_drew w3 o).size⟩
        have HfTN : Kp (∀ p2 ∈ ps.take p ++ [newPF nm], FileC w3 p2.1 p2.2) := ⟨fun p2 h2 => (List.mem_append.1 h2).elim (HfT.out p2) (newPF_file w3 nm hs p2)⟩
        have HlD : Kp ((ps.take p ++ [newPF nm]).length + (ps.drop p).length ≤ 100000) := ⟨by rw [List.length_append, List.length_take, List.length_drop]; simp; omega⟩
        have HTop := Kp.mk hr3.top
        have dA := fun o : Obj => cell_kept (alloc_drew w3 o) d1
        have dB := fun o : Obj => cell_kept (alloc_below w3 o) d1
        have HlB : Kp (([] : List PF).length + (ps.take p).length ≤ 100000) := ⟨by rw [List.length_take]; simp; omega⟩
        have hrmb : 0 ≤ rm ∧ rm ≤ 9223372036854775807 := by omega
        have HLT : Kp ((σ.files.take p).length = p) := ⟨by rw [List.length_take]; omega⟩
        have HN1 : Kp (nv < 1000 ∧ p ≤ nv) := ⟨by omega⟩
        clear hcells hr3 hHE hnv hp hus hfl hrm hrmr hsm hrows HE
        go_upto_if 54 with fail
        go_cut [10] (fun r wx => r = .int .i64 rm ∧ w3 = wx)
        case first =>
          go_wp2_with fail
          all_goals
            go_meet
            exact ⟨by rw [HRM.out]; first | rw [Int.max_eq_left (by omega)] | rw [Int.max_eq_right (by omega)], rfl⟩
        case rest =>
          obtain ⟨rfl, rfl⟩ := hcut
          by_cases hf : rm < us + (m : Int)
          · have hHE := HHE.out
            rw [if_pos (by omega)] at hHE
            have HH := Kp.mk hHE
            clear hHE hub
            go_wp2_with fail
            refine HU.out.mono ?_
            rintro e wU ⟨rfl, rfl⟩
            go_wp2_with fail
            go_ret
            rw [HH.out]
            exact ⟨rfl, postR_of HF3.out HR3.out⟩
          · have hHE := HHE.out
            rw [if_neg (by omega)] at hHE
            have HH := Kp.mk hHE
            clear hHE hub
            go_wp2_with fail
            refine HU.out.mono ?_
            rintro e wU ⟨rfl, rfl⟩
            go_upto_region 17 with fail
            go_cut [] (fun wx => Kp (Fr wU wx (fun k => k = g)) ∧ ∃ A6 n6 c6, Kp (RD wx B g { σ.down.2 with files := σ.files.take p ++ (nm.data.toList, ([], 0)) :: σ.files.drop p } (fun k => S k ∨ wU.heap.size ≤ k) room (.slice A6 n6 c6) A1 c1 (ps.take p ++ [newPF nm] ++ ps.drop p)))
            case first =>
              go_region_law (first
                | (refine step_app3 (w0 := wU) (B := B) rfl (.const (.slice none 0 0)) (.tmp 70) rfl ((Below.refl _ _).drew) (.slice none 0 0) [] (ps.take p) Av p cv rfl rfl (nilOwn _ _) (fun q e => by cases e) (fun p hp => by cases hp) HfT.out (HTk.out.below ((Below.refl _ _).drew)) (fun e => (HNil.out e).2) HlB.out HltB.out ?_
                   intro A4 n4 c4 w4 h1 h2 h3
                   have d4 := cell_kept h1 d1
                   have d4b := fun o : Obj => cell_kept (alloc_below w4 o) d4
                   have HB4 := Kp.mk h1
                   have HO4 := Kp.mk (show w4.ownsRow B 88 3 (.slice A4 n4 c4) (ps.take p).length (flat3 (ps.take p)) from h2)
                   have HV4 := Kp.mk h3
                   clear h1 h2 h3)
                | (refine step_app3 (w0 := wU) (B := B) rfl (.tmp 71) (.tmp 74) rfl (HB4.out.alloc HB4.out.size _) _ (ps.take p) [newPF nm] _ 1 1 rfl rfl (own_alloc HO4.out _) HV4.out HfT.out (newPF_file _ _ hs) (row3_new w4 nm) (fun e => by cases e) HlC.out HltB.out ?_
                   intro A5 n5 c5 w5 h1 h2 h3
                   have d5 := cell_kept h1 d1
                   have HB5 := Kp.mk h1
                   have HO5 := Kp.mk h2
                   have HV5 := Kp.mk h3
                   clear h1 h2 h3)
                | (refine step_app3 (w0 := wU.drew.alloc (.cells #[.string nm, .slice none 0 0, .int .i64 0] 88)) (B := B) rfl (.const (.slice none 0 0)) (.tmp 70) rfl (Below.refl _ _) (.slice none 0 0) [] (ps.take p) Av p cv rfl rfl (nilOwn _ _) (fun q e => by cases e) (fun p hp => by cases hp) (HfT2.out _) (HTk.out.below (alloc_drew wU _)) (fun e => (HNil.out e).2) HlB.out (HltB2.out _) ?_
                   intro A4 n4 c4 w4 h1 h2 h3
                   have d4 := cell_kept ((alloc_drew wU _).trans (h1.mono (by simp))) d1
                   have d4b := fun o : Obj => cell_kept (alloc_below w4 o) d4
                   have HX4 := Kp.mk h1
                   have HO4 := Kp.mk (show w4.ownsRow B 88 3 (.slice A4 n4 c4) (ps.take p).length (flat3 (ps.take p)) from h2)
                   have HV4 := Kp.mk h3
                   clear h1 h2 h3)
                | (refine step_app3 (w0 := wU.drew.alloc (.cells #[.string nm, .slice none 0 0, .int .i64 0] 88)) (B := B) rfl (.tmp 71) (.tmp 74) rfl HX4.out _ (ps.take p) [newPF nm] _ 1 1 rfl rfl HO4.out HV4.out (HfT2.out _) (newPF_file _ _ hs) ((row3_new wU.drew nm).below HX4.out) (fun e => by cases e) HlC.out (HltB2.out _) ?_
                   intro A5 n5 c5 w5 h1 h2 h3
                   have d5 := cell_kept ((alloc_drew wU _).trans (h1.mono (by simp))) d1
                   have HB5 := Kp.mk ((alloc_drew wU _).trans (h1.mono (by simp)))
                   have HO5 := Kp.mk h2
                   have HV5 := Kp.mk (fun q e => Nat.le_trans (alloc_drew wU _).size (h3 q e))
                   clear h1 h2 h3)
                | (refine step_app3 (w0 := wU) (B := B) rfl (.tmp 75) (.tmp 81) rfl HB5.out _ (ps.take p ++ [newPF nm]) (ps.drop p) _ _ _ rfl rfl HO5.out HV5.out HfTN.out HfD.out (HDr.out.1.below HB5.out) HDr.out.2 HlD.out HltB.out ?_
                   intro A6 n6 c6 w6 h1 h2 h3
                   have d6 := cell_kept h1 d1
                   have f6 := frozen_below h1 HTop.out 1
                   have HB6 := Kp.mk h1
                   have HO6 := Kp.mk h2
                   have HV6 := Kp.mk h3
                   clear h1 h2 h3))
              all_goals
                go_wp2_with fail
                all_goals
                  go_meet
                  exact ⟨⟨(Fr.of_below (S := fun k => k = g) HB6.out).setCell (a := ⟨g, 1, none⟩) (.inl rfl) _⟩, _, _, _, ⟨ins_rd HR3.out hs HDF.out.1 HP.out HHS.out (by have := HNV.out; have := HN1.out; omega) HB6.out HO6.out HV6.out⟩⟩
            case rest =>
              obtain ⟨HFc, A6, n6, c6, HRc⟩ := hcut
              have hr6 := HRc.out
              obtain ⟨hn6, hc6, hcells6⟩ := hr6.cells
              have hlen6 : (ps.take p ++ [newPF nm] ++ ps.drop p).length = nv + 1 := by rw [List.length_append, List.length_append, List.length_take, List.length_drop, ← HNV.out]; have := HN1.out; simp; omega
              have hpn : p < n6 := by have := HN1.out; omega
              have hpn' : ¬ n6 ≤ p := by omega
              obtain ⟨q, rfl, hqS, hqg, _, hcj⟩ := hcells6 (by omega)
              obtain ⟨nj, Aj, lj, cj, z0, z1, z2, _, hrd, hljc, hlj16, hsy, _⟩ := hcj p hpn
              have hgd : (σ.files.take p ++ (nm.data.toList, (([] : List Int), 0)) :: σ.files.drop p).getD p afD = (nm.data.toList, ([], 0)) := getD_mid _ _ _ _ HLT.out
              simp only [hgd] at hrd hsy
              have hlj : lj = 0 := hrd.len.symm
              have d1 := cells_top hr6.top 1 (.slice (some ⟨q, 0, none⟩) n6 c6) rfl
              have fz1 := own_free3 hr6.own (p * 3 + 1)
              have HL1 : Kp (0 + lj ≤ 100000000) := ⟨by omega⟩
              have HL2 : Kp (lj + m ≤ 100000000) := ⟨by omega⟩
              have HL3 : Kp (lj + m ≤ 16777216) := ⟨by omega⟩
              have HFW : Kp (Fr w wc (fun k => k = g)) := ⟨HF3.out.trans HFc.out (fun k hk => .inl hk)⟩
              have HB3 := Kp.mk (HB.out.kept HFW.out (fun ad e hn he => HbS.out ad e hn (by rw [he]; exact HgS.out)))
              have HRD := Kp.mk hrd
              have HQS := Kp.mk hqS
              have HPN := Kp.mk hpn
              have HOW := Kp.mk hr6.own
              clear hr6 hcells6 hcj hrd hqS hsy hlj hgd hn6 hlen6 hAd dA dB
              go_wp2_with fail
              go_region_law (first
                | (refine step_appb (w0 := wc) rfl (.const (.slice none 0 0)) (.tmp 97) rfl ((Below.refl _ _).drew) (.slice none 0 0) 0 lj cj [] _ Aj rfl rfl (World.ownsRow_nil _ _ _ _) (HRD.out.below ((Below.refl _ _).drew)) HL1.out ?_
                   intro A4 c4 w4 h1 h2
                   have d4 := cell_kept h1 z1
                   have d5 := cell_kept h1 d1
                   have HB4 := Kp.mk h1
                   have HO4 := Kp.mk (own0 h2)
                   clear h1 h2)
                | (refine step_appb (w0 := wc) rfl (.tmp 98) (.tmp 99) rfl HB4.out _ lj m cb _ b Ab rfl rfl HO4.out (HB3.out.below HB4.out) HL2.out ?_
                   intro A5 c5 w5 h1 h2
                   have d6 := cell_kept h1 z1
                   have d7 := cell_kept h1 d1
                   have f7 := frozen_q h1 HOW.out (p * 3 + 1)
                   have HB5 := Kp.mk h1
                   have HO5 := Kp.mk h2
                   clear h1 h2))
              all_goals
                go_wp2_with fail
                go_ret
                rw [HH.out]
                obtain ⟨ps5, _, h5⟩ := HRc.out.bytes HPN.out HB5.out HO5.out HL3.out (by rw [getD_mid _ _ _ _ HLT.out]; exact Nat.zero_le _)
                simp only [getD_mid _ _ _ _ HLT.out, set_mid _ _ _ _ HLT.out, List.nil_append] at h5
                exact ⟨rfl, ⟨⟨_, _, _, _, _, h5.mono (fun k _ hk => hk.elim (fun h => h.imp id (fun h => Nat.le_trans HF3.out.size h)) (fun h => .inr (Nat.le_trans HFW.out.size h)))⟩, ((HFW.out.below HB5.out).mono (fun k _ hk => by rw [hk]; exact HgS.out)).setCell (a := ⟨q, p * 3 + 1, none⟩) (HQS.out.imp id (fun h => Nat.le_trans HF3.out.size h)) _⟩⟩
  · go_wp2_with fail
    go_ret
    rw [HE.out]
    exact ⟨rfl, postR_of HF1.out HR1.out⟩
theorem r_append {w : World} {B g : Nat} {σ : DS} {S : Nat → Prop} (h : IsR w B g σ S) (nm : ByteArray) (hs : nm.size ≤ 100000) {Ab : Option Addr} {m cb : Nat} {b : List Int} (hb : Rd w .u8 Ab m cb b) (hm : m ≤ 16777216) (hbS : ∀ ad, Ab = some ad → 0 < m → ¬ S ad.block) (hroom : σ.room ≤ 9223372036854775807) :
    Calls Try.prog 35 #[.pointer (some ⟨g, 0, none⟩), .string nm, .slice Ab m cb] w fun e w' => e = .returned (.int .i64 (σ.append nm b).1) ∧ PostR B g S (σ.append nm b).2 w w' := by
  cases hh : hasA nm.data.toList σ.files
  · exact r_append_new h nm hs hh hb hm hbS hroom
  · exact r_append_has h nm hs hh hb hm hbS hroom
end Go.Proofs.Ytgeklapphkgdkaa.Dsk
