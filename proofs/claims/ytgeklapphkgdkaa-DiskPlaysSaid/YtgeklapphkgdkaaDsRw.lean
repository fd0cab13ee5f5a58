import Derived.Test.YtgeklapphkgdkaaDsRv
import Derived.Deep.DeepCutAuto
import Derived.Deep.DrawnRows
set_option linter.unusedVariables false
set_option linter.unusedSimpArgs false
namespace Go.Proofs.Ytgeklapphkgdkaa.Dsk
open Go.RowKit Go.Maps
attribute [local go_sem ↓] Go.wp_at_zero Go.wp_at_succ

/-! ### The reference's disk: Rename -/
theorem goneP (nm : List UInt8) {ps : List PF} {fs : AF} (h : ps.map (fun p : PF => p.2) = fs) (hh : hasA nm fs = true) : (ps.take (posA nm fs) ++ ps.drop (posA nm fs + 1)).map (fun p : PF => p.2) = goneA nm fs := by
  unfold goneA
  rw [hh, if_pos rfl, List.map_append, List.map_take, List.map_drop, h]
/-- One more file in a list. -/
theorem ins_rd2 {w w6 : World} {B g : Nat} {σ : DS} {S : Nat → Prop} {room : Int} {v v6 : Value} {A : Option Addr} {c p : Nat} {ps : List PF} (h : RD w B g σ S room v A c ps) {x : PF} {nm : List UInt8} {u : List Int × Nat} (hx : FileC w x.1 x.2) (hxf : ∀ A n c, Value.slice (some A) n c ∈ x.1.toList → 0 < n → S A.block ∧ A.block ≠ g) (hxu : x.2 = (nm, u)) {fs : AF} (hfs : σ.files = fs) (hp : p = posA nm fs) (hh : hasA nm fs = false) (hl : ps.length < 1000)
    (hB : Below w.heap.size w w6) (hO : w6.ownsRow B 88 3 v6 (ps.take p ++ [x] ++ ps.drop p).length (flat3 (ps.take p ++ [x] ++ ps.drop p))) (hV : ∀ q, v6.ownBlock = some q → w.heap.size ≤ q) :
    RD (w6.setCell ⟨g, 1, none⟩ v6) B g { σ with files := fs.take p ++ (nm, u) :: fs.drop p } (fun k => S k ∨ w.heap.size ≤ k) room v6 A c (ps.take p ++ [x] ++ ps.drop p) := by
  have hmap : (ps.take p ++ [x] ++ ps.drop p).map (fun p : PF => p.2) = fs.take p ++ (nm, u) :: fs.drop p := by
    rw [List.map_append, List.map_append, List.map_take, List.map_drop, h.abs, hfs]
    simp [hxu]
  have hmem : ∀ y ∈ ps.take p ++ [x] ++ ps.drop p, y ∈ ps ∨ y = x := fun y hy => by
    rcases List.mem_append.1 hy with hy | hy
    · rcases List.mem_append.1 hy with hy | hy
      · exact .inl (List.mem_of_mem_take hy)
      · exact .inr (List.mem_singleton.1 hy)
    · exact .inl (List.mem_of_mem_drop hy)
  have hR := h.relist hB (v' := v6) hO (fun y hy => (hmem y hy).elim (h.file y) (fun e => e ▸ hx))
    (fun y hy A n c hm hn => (hmem y hy).elim (fun g1 => ⟨(h.far y g1 A n c hm hn).1, (h.far y g1 A n c hm hn).2.1⟩) (fun e => by rw [e] at hm; exact hxf A n c hm hn))
    hV (by rw [hmap, hp]; exact srt_ins _ _ (hfs ▸ h.srt) hh) (by rw [List.length_append, List.length_append, List.length_take, List.length_drop]; simp; omega)
  rw [hmap] at hR
  exact hR
theorem row3_one (W : World) {vs : Array Value} {f : List UInt8 × List Int × Nat} (o : Obj) (ho : o = .cells vs 88) : Row3 (W.alloc o) (some ⟨W.heap.size, 0, none⟩) 1 [(vs, f)] :=
  ⟨rfl, (fun e => by cases e), fun ad e j u hu => by
    injection e with e
    subst e ho
    rw [Addr.add_lit, Nat.zero_add, cell_of_row _ _ _ _ _ _ (heap_alloc_new W _)]
    simpa [flat3] using hu⟩
theorem len_gone {α : Type} (ps : List α) {i : Nat} (h : i < ps.length) : (ps.take i ++ ps.drop (i + 1)).length + 1 = ps.length := by
  rw [List.length_append, List.length_take, List.length_drop]
  omega
set_option maxHeartbeats 8000000 in
set_option maxRecDepth 100000 in
theorem r_rename {w : World} {B g : Nat} {σ : DS} {S : Nat → Prop} (h : IsR w B g σ S) (fr tn : ByteArray) (hfs : fr.size ≤ 100000) (hts : tn.size ≤ 100000) :
    Calls Try.prog 37 #[.pointer (some ⟨g, 0, none⟩), .string fr, .string tn] w fun e w' => e = .returned (.int .i64 (σ.rename fr tn).1) ∧ PostR B g S (σ.rename fr tn).2 w w' := by
  obtain ⟨room, v, A, c, ps, hr⟩ := h
  have HD := Kp.mk (r_down hr)
  have HE := Kp.mk (rename_eq fr tn hr.srt)
  have HSRT := Kp.mk hr.srt
  have HDF := Kp.mk (down_files σ)
  have HgS := Kp.mk hr.gS
  obtain ⟨dn, hdn⟩ : ∃ dn, dn = σ.down.1 := ⟨_, rfl⟩
  obtain ⟨ok1, hok1⟩ : ∃ ok, ok = nameOk fr := ⟨_, rfl⟩
  obtain ⟨ok2, hok2⟩ : ∃ ok, ok = nameOk tn := ⟨_, rfl⟩
  obtain ⟨hs1, hhs⟩ : ∃ b, b = hasA fr.data.toList σ.files := ⟨_, rfl⟩
  rw [← hdn, ← hok1, ← hok2, ← hhs] at HE
  have HDN := Kp.mk hdn
  have HOK1 := Kp.mk hok1
  have HOK2 := Kp.mk hok2
  have HHS := Kp.mk hhs
  clear hr hdn hok1 hok2 hhs
  go_enter Try.func37, Try.ntmps37
  go_wp2_with fail
  refine HD.out.mono ?_
  rintro e w1 ⟨rfl, hf1, A1, c1, hr1⟩
  rw [← HDN.out]
  have HF1 := Kp.mk hf1
  have HR1 := Kp.mk hr1
  clear hf1 hr1 HD
  cases dn
  · have HN1 := Kp.mk (named_any fr hfs w1)
    rw [← HOK1.out] at HN1
    go_wp2_with fail
    refine HN1.out.mono ?_
    rintro e w2 ⟨rfl, hb2⟩
    have HF2 := Kp.mk (HF1.out.below hb2)
    have HR2 := Kp.mk (HR1.out.below hb2)
    clear hb2 HN1
    cases ok1
    · go_wp2_with fail
      go_ret
      rw [HE.out]
      exact ⟨rfl, postR_of HF2.out HR2.out⟩
    · have HN2 := Kp.mk (named_any tn hts w2)
      rw [← HOK2.out] at HN2
      go_wp2_with fail
      refine HN2.out.mono ?_
      rintro e w3 ⟨rfl, hb3⟩
      have HF3 := Kp.mk (HF2.out.below hb3)
      have HR3 := Kp.mk (HR2.out.below hb3)
      clear hb3 HN2
      cases ok2
      · go_wp2_with fail
        go_ret
        rw [HE.out]
        exact ⟨rfl, postR_of HF3.out HR3.out⟩
      · have HAt := Kp.mk (r_at HR3.out fr hfs)
        rw [HDF.out.1, ← HHS.out] at HAt
        go_wp2_with fail
        refine HAt.out.mono ?_
        rintro e w4 ⟨rfl, hb4⟩
        have HF4 := Kp.mk (HF3.out.below hb4)
        have HR4 := Kp.mk (HR3.out.below hb4)
        clear hb4 HAt
        cases hs1
        · go_wp2_with fail
          go_ret
          rw [HE.out]
          exact ⟨rfl, postR_of HF4.out HR4.out⟩
        · by_cases hft : fr = tn
          · have hr2 := HE.out
            simp only [Bool.false_eq_true, if_false, if_true, Bool.and_self, hft] at hr2
            have Hr2 := Kp.mk hr2
            clear hr2 HE
            subst hft
            go_wp2_with fail
            go_ret
            rw [Hr2.out]
            exact ⟨rfl, postR_of HF4.out HR4.out⟩
          · have hr2 := HE.out
            simp only [Bool.false_eq_true, if_false, if_true, Bool.and_self, hft] at hr2
            have Hr2 := Kp.mk hr2
            have hne : (fr.toList == tn.toList) = false := by
              rw [ByteArray.toList_eq, ByteArray.toList_eq, beq_eq_false_iff_ne]
              exact fun e => hft (toList_inj e)
            clear hr2 HE
            obtain ⟨Av, nv, cv, hv⟩ := HR4.out.slice
            have hr4 := HR4.out.mono (S2 := fun k => S k ∧ k < w4.heap.size) (fun k hk h => ⟨h, hk⟩)
            rw [hv] at hr4
            obtain ⟨hnv, hcv, h3, _⟩ := own_row3 hr4.own hr4.file
            obtain ⟨i, hi⟩ : ∃ i, i = posA fr.data.toList σ.files := ⟨_, rfl⟩
            obtain ⟨hil, hin⟩ := hasA_at HHS.out.symm
            rw [← hi] at hil hin
            have hinv : i < nv := by
              rw [hnv, ← List.length_map (f := fun p : PF => p.2), hr4.abs, HDF.out.1]
              exact hil
            obtain ⟨q, rfl, hc⟩ := h3 (by omega)
            obtain ⟨hpl, hmem, hgh⟩ := hr4.ghost hinv
            obtain ⟨nj, Aj, lj, cj, ej, g1, hrd, g3, g4, g5, g6⟩ := (hr4.file _ hmem).out
            have hg := fun k hk => flat3_get hr4.file hpl (j := k) hk
            rw [ej] at hg
            have z0 : w4.cell? ⟨q, i * 3, none⟩ = some (.string nj) := hc (i * 3 + 0) _ ((hg 0 (by omega)).trans rfl)
            have z1 := hc (i * 3 + 1) _ ((hg 1 (by omega)).trans rfl)
            have z2 := hc (i * 3 + 2) _ ((hg 2 (by omega)).trans rfl)
            have hfar : ∀ ad, Aj = some ad → 0 < lj → (S ad.block ∧ ad.block < w4.heap.size) ∧ ad.block ≠ g := fun ad e hn => by
              have := hr4.far _ hmem ad lj cj (by rw [ej, e]; simp) hn
              exact ⟨this.1, this.2.1⟩
            rw [hgh, HDF.out.1] at z2 hrd g5
            obtain ⟨uj, huj⟩ : ∃ uj, uj = (σ.files.getD i afD).2 := ⟨_, rfl⟩
            rw [← huj] at z2 hrd g5
            rw [← hi, ← huj] at Hr2
            rw [← hi]
            obtain ⟨bj, sj⟩ := uj
            have hinv' : ¬ nv ≤ i := by omega
            have d1 := cells_top hr4.top 1 (.slice (some ⟨q, 0, none⟩) nv cv) rfl
            have hmost := hr4.most
            have hgl : g < w4.heap.size := lt_of_block hr4.top
            have HR4b := Kp.mk hr4
            have HI := Kp.mk hi
            have HRD := Kp.mk hrd
            have HFAR := Kp.mk hfar
            have HNV : Kp (nv = ps.length ∧ nv ≤ 1000 ∧ i < ps.length) := ⟨by omega⟩
            have HSY := Kp.mk (And.intro g3 (And.intro g4 g5))
            clear hr4 h3 hc hg hpl hmem hgh ej g1 hrd g3 g4 g5 g6 hfar hi hil hin huj hnv hmost hcv
            go_wp2_with fail
            refine (r_gone (HR4b.out.below (alloc_below w4 _)) HNV.out.2.2).mono ?_
            rintro e w5 ⟨rfl, hf5, v5, hr5⟩
            obtain ⟨ps1, hps1⟩ : ∃ x, x = ps.take i ++ ps.drop (i + 1) := ⟨_, rfl⟩
            obtain ⟨f1, hf1⟩ : ∃ x, x = goneA fr.data.toList σ.files := ⟨_, rfl⟩
            have e1 : σ.files.take i ++ σ.files.drop (i + 1) = f1 := by rw [hf1, HI.out]; unfold goneA; rw [← HHS.out, if_pos rfl]
            rw [HDF.out.1, e1, ← hps1] at hr5
            rw [← hf1] at Hr2
            obtain ⟨gF, hgF⟩ : ∃ x, x = w4.heap.size := ⟨_, rfl⟩
            rw [← hgF]
            have hgt : w5.heap[gF]? = some (.cells #[.string nj, .slice Aj lj cj, .int .i64 (sj : Nat)] 88 (0, 0)) := by
              rw [hgF]
              exact (hf5.block w4.heap.size (by simp) (fun e => by omega)).trans (heap_alloc_new w4 _)
            have hgs : (w4.alloc (.cells #[.string nj, .slice Aj lj cj, .int .i64 (sj : Nat)] 88)).heap.size = gF + 1 := by rw [hgF]; simp
            have hF5 : Fr w4 w5 (fun k => k = g) := (Fr.of_below (S := fun k => k = g) (alloc_below w4 _)).trans hf5 (fun k hk => .inl hk)
            rw [hgs] at hr5
            have HLs : Kp (ps1.length < 1000 ∧ ps1.map (fun p : PF => p.2) = f1) := ⟨⟨by rw [hps1]; have := len_gone ps HNV.out.2.2; have := HNV.out; omega, by have := hr5.abs; simpa using this⟩⟩
            have HSF1 : Kp (Srt f1) := ⟨by rw [hf1]; exact goneA_srt _ HSRT.out⟩
            have HF5 := Kp.mk hF5
            have HR5 := Kp.mk hr5
            have HGT := Kp.mk hgt
            have HGF := Kp.mk hgF
            clear hf5 hr5 hgt hF5 hgs hps1 hf1 e1 hgF z0 z1 z2 d1
            have HAt := Kp.mk (r_at HR5.out tn hts)
            obtain ⟨k, hk⟩ : ∃ k, k = posA tn.data.toList f1 := ⟨_, rfl⟩
            obtain ⟨hs2, hhs2⟩ : ∃ b, b = hasA tn.data.toList f1 := ⟨_, rfl⟩
            simp only at HAt
            rw [← hk, ← hhs2] at HAt
            rw [← hk] at Hr2
            have HK := Kp.mk hk
            have HH2 := Kp.mk hhs2
            clear hk hhs2
            go_wp2_with fail
            refine HAt.out.mono ?_
            rintro e w6 ⟨rfl, hb6⟩
            have HB6 := Kp.mk hb6
            have HR6 := Kp.mk (HR5.out.below hb6)
            clear hb6 HAt
            go_upto_if 49 with fail
            go_cut [] (fun wx => Kp (Fr w6 wx (fun k => k = g)) ∧ ∃ v2 ps2, Kp (RD wx B g { σ.down.2 with files := goneA tn.data.toList f1 } (fun k => (S k ∧ k < w4.heap.size) ∨ gF + 1 ≤ k) room v2 A1 c1 ps2) ∧ Kp (ps2.length < 1000))
            case first =>
              cases hs2
              · go_wp2_with fail
                go_meet
                have e2 : goneA tn.data.toList f1 = f1 := by unfold goneA; rw [← HH2.out]; rfl
                exact ⟨⟨Fr.refl w6 _⟩, v5, ps1, ⟨by rw [e2]; exact HR6.out⟩, ⟨HLs.out.1⟩⟩
              · have hkl : k < ps1.length := by
                  have := (hasA_at HH2.out.symm).1
                  rw [← HK.out, ← HLs.out.2, List.length_map] at this
                  exact this
                have HG := Kp.mk (r_gone HR6.out hkl)
                have HKL := Kp.mk hkl
                clear hkl
                go_wp2_with fail
                refine HG.out.mono ?_
                rintro e w7 ⟨rfl, hf7, v7, hr7⟩
                have HF7 := Kp.mk hf7
                have HR7 := Kp.mk hr7
                clear hf7 hr7 HG
                go_wp2_with fail
                go_meet
                have e2 : goneA tn.data.toList f1 = f1.take k ++ f1.drop (k + 1) := by rw [HK.out]; unfold goneA; rw [← HH2.out]; rfl
                exact ⟨HF7, v7, _, ⟨by rw [e2]; exact HR7.out.mono (fun x _ hx => hx.elim (fun h => h) (fun h => .inr (by have := lt_of_block HGT.out; have := HB6.out.size; omega)))⟩, ⟨by have := len_gone ps1 HKL.out; have := HLs.out.1; omega⟩⟩
            case rest =>
              obtain ⟨HF7, v7, ps2, HR7, HL2⟩ := hcut
              obtain ⟨w7, rfl⟩ : ∃ W, W = wc := ⟨_, rfl⟩
              have hgl7 : gF < w5.heap.size := lt_of_block HGT.out
              have hgne : gF ≠ g := by have := HGF.out; omega
              have hgt7 : w7.heap[gF]? = some (.cells #[.string nj, .slice Aj lj cj, .int .i64 (sj : Nat)] 88 (0, 0)) := by
                rw [HF7.out.block gF (by have := HB6.out.size; omega) hgne, HB6.out.block gF hgl7]
                exact HGT.out
              have y0 := cells_top hgt7 0 (.string nj) rfl
              have y1 := cells_top hgt7 1 (.slice Aj lj cj) rfl
              have y2 := cells_top hgt7 2 (.int .i64 (sj : Nat)) rfl
              have yf := free_top hgt7 0
              have HGT7 := Kp.mk hgt7
              clear hgt7 HR6
              go_upto_region 15 with fail
              go_cut [] (fun wx => Kp (Fr w7 wx (fun k => k = gF)) ∧ Kp (wx.heap[gF]? = some (.cells #[.string tn, .slice Aj lj cj, .int .i64 (sj : Nat)] 88 (0, 0))))
              case first =>
                go_wp2_with fail
                go_meet
                exact ⟨⟨fr_setg w7 gF 0 _⟩, ⟨heap_setCell_same w7 gF 0 _ _ _ HGT7.out⟩⟩
              case rest =>
                obtain ⟨HF8, HGT8⟩ := hcut
                obtain ⟨w8, rfl⟩ : ∃ W, W = wc := ⟨_, rfl⟩
                have HFA : Kp (Fr w4 w8 (fun k => k = g ∨ k = gF)) := ⟨((((HF5.out.mono (S2 := fun k => k = g ∨ k = gF) (fun k _ h => .inl h)).below HB6.out).trans HF7.out (fun k h => .inl (.inl h))).trans HF8.out (fun k h => .inl (.inr h)))⟩
                have hr8 := HR7.out.kept HF8.out (fun k hk e => by rcases hk with hk | hk; (have := HGF.out; omega); omega)
                have HX : Kp (FileC w8 #[.string tn, .slice Aj lj cj, .int .i64 (sj : Nat)] (tn.data.toList, (bj, sj))) := ⟨⟨tn, Aj, lj, cj, rfl, rfl, HRD.out.kept HFA.out (fun ad e hn h => by have := HFAR.out ad e hn; have := HGF.out; rcases h with h | h <;> omega), HSY.out.1, HSY.out.2.1, HSY.out.2.2, hts⟩⟩
                have HXF : Kp (∀ A n c, Value.slice (some A) n c ∈ (#[.string tn, .slice Aj lj cj, .int .i64 (sj : Nat)] : Array Value).toList → 0 < n → ((S A.block ∧ A.block < w4.heap.size) ∨ gF + 1 ≤ A.block) ∧ A.block ≠ g) := ⟨fun A n c hm hn => by
                  simp at hm
                  obtain ⟨e1, e2, e3⟩ := hm
                  have := HFAR.out A e1.symm (by omega)
                  exact ⟨.inl this.1, this.2⟩⟩
                obtain ⟨fs2, hfs2⟩ : ∃ x, x = goneA tn.data.toList f1 := ⟨_, rfl⟩
                have hk2 : k = posA tn.data.toList fs2 := by rw [hfs2, (goneA_pos _ HSF1.out).1]; exact HK.out
                have hh2 : hasA tn.data.toList fs2 = false := by rw [hfs2]; exact (goneA_pos _ HSF1.out).2
                rw [← hfs2] at Hr2 hr8
                obtain ⟨Av, nv2, cv2, rfl⟩ := hr8.slice
                obtain ⟨hnv2, hcv2, _⟩ := hr8.cells
                have hkn : k ≤ nv2 := by
                  rw [hk2, hnv2, ← List.length_map (f := fun p : PF => p.2), hr8.abs]
                  exact posA_le _ _
                have hrows := hr8.rows hkn
                obtain ⟨Ad, hAd⟩ : ∃ Ad, (if cv2 = k then Av else Option.map (fun x : Addr => x.add (k * 3)) Av) = Ad := ⟨_, rfl⟩
                rw [hAd] at hrows
                have hl2 := HL2.out
                have hz0 : k ≤ cv2 := by omega
                obtain ⟨xP, hxP⟩ : ∃ x : PF, x = (#[.string tn, .slice Aj lj cj, .int .i64 (sj : Nat)], (tn.data.toList, (bj, sj))) := ⟨_, rfl⟩
                have HFX : Kp (FileC w8 xP.1 xP.2) := ⟨by rw [hxP]; exact HX.out⟩
                have HXF2 : Kp (∀ A n c, Value.slice (some A) n c ∈ xP.1.toList → 0 < n → ((S A.block ∧ A.block < w4.heap.size) ∨ gF + 1 ≤ A.block) ∧ A.block ≠ g) := ⟨by rw [hxP]; exact HXF.out⟩
                have HXU : Kp (xP.2 = (tn.data.toList, (bj, sj))) := ⟨by rw [hxP]⟩
                have HXR : Kp (∀ W : World, Row3 (W.alloc (.cells #[.string tn, .slice Aj lj cj, .int .i64 (sj : Nat)] 88)) (some ⟨W.heap.size, 0, none⟩) 1 [xP]) := ⟨fun W => by rw [hxP]; exact row3_one W _ rfl⟩
                have HTk := Kp.mk hrows.1
                have HNil := Kp.mk hrows.2.1
                have HDr := Kp.mk hrows.2.2
                have HfT : Kp (∀ p2 ∈ ps2.take k, FileC w8 p2.1 p2.2) := ⟨fun p2 h2 => hr8.file p2 (List.mem_of_mem_take h2)⟩
                have HfD : Kp (∀ p2 ∈ ps2.drop k, FileC w8 p2.1 p2.2) := ⟨fun p2 h2 => hr8.file p2 (List.mem_of_mem_drop h2)⟩
                have HfX : Kp (∀ p2 ∈ [xP], FileC w8 p2.1 p2.2) := ⟨fun p2 h2 => by rw [List.mem_singleton.1 h2]; exact HFX.out⟩
                have HltB : Kp (B ≤ w8.heap.size) := ⟨by have := lt_of_block hr8.top; have := hr8.gB; omega⟩
                have HlC : Kp ((ps2.take k).length + [xP].length ≤ 100000) := ⟨by rw [List.length_take]; simp; omega⟩
                have HfT2 : Kp (∀ o : Obj, ∀ p2 ∈ ps2.take k, FileC (w8.drew.alloc o) p2.1 p2.2) := ⟨fun o p2 h2 => (HfT.out p2 h2).kept (Fr.of_below (S := fun _ => False) (alloc_drew w8 o)) (fun _ _ _ _ _ h => h)⟩
                have HfX2 : Kp (∀ o : Obj, ∀ p2 ∈ [xP], FileC (w8.drew.alloc o) p2.1 p2.2) := ⟨fun o p2 h2 => (HfX.out p2 h2).kept (Fr.of_below (S := fun _ => False) (alloc_drew w8 o)) (fun _ _ _ _ _ h => h)⟩
                have HltB2 : Kp (∀ o : Obj, B ≤ (w8.drew.alloc o).heap.size) := ⟨fun o => Nat.le_trans HltB.out (alloc_drew w8 o).size⟩
                have HfTN : Kp (∀ p2 ∈ ps2.take k ++ [xP], FileC w8 p2.1 p2.2) := ⟨fun p2 h2 => (List.mem_append.1 h2).elim (HfT.out p2) (HfX.out p2)⟩
                have HlD : Kp ((ps2.take k ++ [xP]).length + (ps2.drop k).length ≤ 100000) := ⟨by rw [List.length_append, List.length_take, List.length_drop]; simp; omega⟩
                have HTop := Kp.mk hr8.top
                have d1 := cells_top hr8.top 1 (.slice Av nv2 cv2) rfl
                have dA := fun o : Obj => cell_kept (alloc_drew w8 o) d1
                have dB := fun o : Obj => cell_kept (alloc_below w8 o) d1
                have HlB : Kp (([] : List PF).length + (ps2.take k).length ≤ 100000) := ⟨by rw [List.length_take]; simp; omega⟩
                have x0 := cells_top HGT8.out 0 (.string tn) rfl
                have x1 := cells_top HGT8.out 1 (.slice Aj lj cj) rfl
                have x2 := cells_top HGT8.out 2 (.int .i64 (sj : Nat)) rfl
                have HR8 := Kp.mk hr8
                have HK2 := Kp.mk hk2
                have HHF := Kp.mk hh2
                have HW8 : Kp (w.heap.size ≤ w4.heap.size ∧ w4.heap.size = gF ∧ w4.heap.size ≤ w8.heap.size) := ⟨HF4.out.size, HGF.out.symm, HFA.out.size⟩
                clear hr8 hfs2 hk2 hh2 hnv2 hcv2 hrows hl2 hxP y0 y1 y2 yf
                go_upto_region 16 with fail
                go_cut [] (fun wx => Kp (Fr w8 wx (fun k => k = g)) ∧ ∃ A6 n6 c6 ps6, Kp (RD wx B g { σ.down.2 with files := fs2.take k ++ (tn.data.toList, (bj, sj)) :: fs2.drop k } (fun k => ((S k ∧ k < w4.heap.size) ∨ gF + 1 ≤ k) ∨ w8.heap.size ≤ k) room (.slice A6 n6 c6) A1 c1 ps6))
                case first =>
                  go_region_law (first
                    | (refine step_app3 (w0 := w8) (B := B) rfl (.const (.slice none 0 0)) (.tmp 61) rfl ((Below.refl _ _).drew) (.slice none 0 0) [] (ps2.take k) Av k cv2 rfl rfl (nilOwn _ _) (fun q e => by cases e) (fun p hp => by cases hp) HfT.out (HTk.out.below ((Below.refl _ _).drew)) (fun e => (HNil.out e).2) HlB.out HltB.out ?_
                       intro A4 n4 c4 w9 h1 h2 h3
                       have d4 := cell_kept h1 d1
                       have d4b := fun o : Obj => cell_kept (alloc_below w9 o) d4
                       have x4 := cell_kept h1 x0
                       have x5 := cell_kept h1 x1
                       have x6 := cell_kept h1 x2
                       have HB4 := Kp.mk h1
                       have HO4 := Kp.mk (show w9.ownsRow B 88 3 (.slice A4 n4 c4) (ps2.take k).length (flat3 (ps2.take k)) from h2)
                       have HV4 := Kp.mk h3
                       clear h1 h2 h3)
                    | (refine step_app3 (w0 := w8) (B := B) rfl (.tmp 62) (.tmp 64) rfl (HB4.out.alloc HB4.out.size _) _ (ps2.take k) [xP] _ 1 1 rfl rfl (own_alloc HO4.out _) HV4.out HfT.out HfX.out (HXR.out w9) (fun e => by cases e) HlC.out HltB.out ?_
                       intro A5 n5 c5 w10 h1 h2 h3
                       have d5 := cell_kept h1 d1
                       have HB5 := Kp.mk h1
                       have HO5 := Kp.mk h2
                       have HV5 := Kp.mk h3
                       clear h1 h2 h3)
                    | (refine step_app3 (w0 := w8.drew.alloc (.cells #[.string tn, .slice Aj lj cj, .int .i64 (sj : Nat)] 88)) (B := B) rfl (.const (.slice none 0 0)) (.tmp 61) rfl (Below.refl _ _) (.slice none 0 0) [] (ps2.take k) Av k cv2 rfl rfl (nilOwn _ _) (fun q e => by cases e) (fun p hp => by cases hp) (HfT2.out _) (HTk.out.below (alloc_drew w8 _)) (fun e => (HNil.out e).2) HlB.out (HltB2.out _) ?_
                       intro A4 n4 c4 w9 h1 h2 h3
                       have d4 := cell_kept ((alloc_drew w8 _).trans (h1.mono (by simp))) d1
                       have d4b := fun o : Obj => cell_kept (alloc_below w9 o) d4
                       have HX4 := Kp.mk h1
                       have HO4 := Kp.mk (show w9.ownsRow B 88 3 (.slice A4 n4 c4) (ps2.take k).length (flat3 (ps2.take k)) from h2)
                       have HV4 := Kp.mk h3
                       clear h1 h2 h3)
                    | (refine step_app3 (w0 := w8.drew.alloc (.cells #[.string tn, .slice Aj lj cj, .int .i64 (sj : Nat)] 88)) (B := B) rfl (.tmp 62) (.tmp 64) rfl HX4.out _ (ps2.take k) [xP] _ 1 1 rfl rfl HO4.out HV4.out (HfT2.out _) (HfX2.out _) ((HXR.out w8.drew).below HX4.out) (fun e => by cases e) HlC.out (HltB2.out _) ?_
                       intro A5 n5 c5 w10 h1 h2 h3
                       have d5 := cell_kept ((alloc_drew w8 _).trans (h1.mono (by simp))) d1
                       have HB5 := Kp.mk ((alloc_drew w8 _).trans (h1.mono (by simp)))
                       have HO5 := Kp.mk h2
                       have HV5 := Kp.mk (fun q e => Nat.le_trans (alloc_drew w8 _).size (h3 q e))
                       clear h1 h2 h3)
                    | (refine step_app3 (w0 := w8) (B := B) rfl (.tmp 65) (.tmp 71) rfl HB5.out _ (ps2.take k ++ [xP]) (ps2.drop k) _ _ _ rfl rfl HO5.out HV5.out HfTN.out HfD.out (HDr.out.1.below HB5.out) HDr.out.2 HlD.out HltB.out ?_
                       intro A6 n6 c6 w11 h1 h2 h3
                       have d6 := cell_kept h1 d1
                       have f6 := frozen_below h1 HTop.out 1
                       have HB6 := Kp.mk h1
                       have HO6 := Kp.mk h2
                       have HV6 := Kp.mk h3
                       clear h1 h2 h3))
                  all_goals
                    go_wp2_with fail
                    all_goals
                      go_meet
                      exact ⟨⟨(Fr.of_below (S := fun k => k = g) HB6.out).setCell (a := ⟨g, 1, none⟩) (.inl rfl) _⟩, _, _, _, _, ⟨ins_rd2 HR8.out HFX.out HXF2.out HXU.out rfl HK2.out HHF.out HL2.out HB6.out HO6.out HV6.out⟩⟩
                case rest =>
                  obtain ⟨HF9, A6, n6, c6, ps6, HR9⟩ := hcut
                  go_wp2_with fail
                  go_ret
                  rw [Hr2.out]
                  have hw := HW8.out
                  refine ⟨rfl, ⟨⟨_, _, _, _, _, HR9.out.mono (fun x _ hx => ?_)⟩, ?_⟩⟩
                  · rcases hx with (hx | hx) | hx
                    · exact .inl hx.1
                    · exact .inr (by omega)
                    · exact .inr (by omega)
                  · have h1 : Fr w w4 S := HF4.out.mono (fun k _ h => by rw [h]; exact HgS.out)
                    have h2 : Fr w w8 S := h1.trans HFA.out (fun k h => h.elim (fun e => .inl (by rw [e]; exact HgS.out)) (fun e => .inr (by omega)))
                    exact h2.trans HF9.out (fun k e => .inl (by rw [e]; exact HgS.out))
  · go_wp2_with fail
    go_ret
    rw [HE.out]
    exact ⟨rfl, postR_of HF1.out HR1.out⟩
end Go.Proofs.Ytgeklapphkgdkaa.Dsk
