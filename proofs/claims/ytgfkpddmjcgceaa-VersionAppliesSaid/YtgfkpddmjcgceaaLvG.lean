import Derived.Test.YtgfkpddmjcgceaaLvF
import Derived.Deep.RegionHeld3
set_option linter.unusedVariables false
set_option linter.unusedSimpArgs false
namespace Go.Proofs.Ytgfkpddmjcgceaa.Kx
open Go.RowKit Go.Maps Go.Sort Go.Proofs.YtgfkpddmjcgceaaW.PrintWords

set_option maxHeartbeats 8000000 in
set_option maxRecDepth 100000 in
theorem ref_live {w : World} {A : Option Addr} {c : Nat} {rs : List Rn} (nx lg sq : Int) (h : kRn.C w A rs.length rs) (hn : rs.length ≤ 900000) :
    Calls Try.prog 20 #[.agg #[.slice A rs.length c, .int .i64 nx, .int .i64 lg, .int .u64 sq]] w (LiveQ rs lg w) := by
  obtain ⟨n, hnl⟩ : ∃ n, n = rs.length := ⟨_, rfl⟩
  rw [← hnl] at h hn ⊢
  have Hnl := Kp.mk hnl
  have H := Kp.mk h
  clear h hnl
  go_enter Try.func20, Try.ntmps20
  go_wp2_with fail
  refine (ref_files (Kd.C_alloc H.out _) (by omega)).mono ?_
  rintro e w1 ⟨v1, rfl, hR1, hB1⟩
  try dsimp only
  have HX := Kp.mk (heap_newb hB1)
  have HB := Kp.mk ((alloc_below w (.cells #[.slice A n c, .int .i64 nx, .int .i64 lg, .int .u64 sq] 27)).trans (hB1.mono (by simp)))
  have HO := Kp.mk (Kd.R_lower (base' := w.heap.size) hR1 (by simp))
  have HWs := Kp.mk HB.out.size
  have Hfl : Kp ((rs.map Rn.file).length = n) := ⟨by rw [List.length_map]; exact Hnl.out.symm⟩
  have b2 := cells_top HX.out 2 (.int .i64 lg) rfl
  clear hR1 hB1
  by_cases h0 : lg = 0
  focus
    subst h0
    have HF : Kp (∀ l, SelI (rs.map Rn.file) l [] → LiveP rs 0 l) := ⟨fun l hl => sel_live0 hl⟩
    obtain ⟨L, hL⟩ : ∃ L, L = rs.map Rn.file := ⟨_, rfl⟩
    rw [← hL] at HO HF Hfl
    have HLn : Kp (L.length ≤ 900001) := ⟨by rw [Hfl.out]; omega⟩
    clear hL Hfl
    go_wp2_with fail
    have HP := HO
    have HBP := HB
    clear HO HB b2 HX HWs
  rotate_left
  focus
    have h1 : (lg == 0) = false := by simpa using h0
    have h2 : (lg != 0) = true := by simpa using h0
    have HF : Kp (∀ l, SelI (rs.map Rn.file ++ [lg]) l [] → LiveP rs lg l) := ⟨fun l hl => sel_live1 h0 hl⟩
    obtain ⟨ys, hys⟩ : ∃ ys, ys = rs.map Rn.file := ⟨_, rfl⟩
    rw [← hys] at HO Hfl HF
    clear hys
    go_wp2_with (at_builtin; refine Kd.R_append (Kd.int .i64) (w0 := w) w.heap.size rfl (.tmp 13) (.tmp 16) 29 3 (.int .i64 0) 8 rfl Try.underlying29 Try.infoInt rfl (by decide) (by omega) _ ys lg [.int .i64 lg] (fun _ => True) (fun _ => False) rfl rfl rfl (fun _ hk => hk.elim) (fun _ _ => trivial) HO.out HB.out HWs.out (by rw [Hfl.out]; omega) ?_; intro v2 w2 hR hB hg hat; have HP := Kp.mk hR; have HBP := Kp.mk hB; clear hR hB hg hat)
    obtain ⟨L, hL⟩ : ∃ L, L = ys ++ [lg] := ⟨_, rfl⟩
    rw [← hL] at HP HF
    have HLn : Kp (L.length ≤ 900001) := ⟨by rw [hL, List.length_append, Hfl.out]; simp; omega⟩
    clear hL Hfl HO HB b2 HX HWs h0 h1 h2
  all_goals
    go_loopw [3, 4] (fun v u wr => ∃ ys os : List Int, Kp (os.length + ys.length ≤ 900001) ∧ Kp ((Kd.int .i64).R 3 wr w.heap.size (fun k => some k ≠ u.ownBlock) v ys) ∧ Kp ((Kd.int .i64).R 3 wr w.heap.size (fun _ => True) u os) ∧ Kp (SelI L os ys) ∧ Kp (Below w.heap.size w wr)) (fun v _ _ => slen v)
    case atStart => exact ⟨L, [], ⟨by simpa using HLn.out⟩, ⟨Kd.R_mono HP.out (fun k _ => by simp [Value.ownBlock])⟩, ⟨Kd.R_nil _ _ _ _ _⟩, ⟨List.Pairwise.nil, by simp, by simp⟩, HBP⟩
    case round =>
      clear HP HBP HLn
      obtain ⟨ys, os, HL1, HV, HU, HSel, HB⟩ := hrel
      obtain ⟨A3, c3, hv, hl3, hC3⟩ := Kd.R_reads HV.out
      obtain ⟨A4, c4, hu, hl4, hC4⟩ := Kd.R_reads HU.out
      subst hv
      subst hu
      obtain ⟨m, hm⟩ : ∃ m, m = ys.length := ⟨_, rfl⟩
      have Hm := Kp.mk hm
      have hm9 : m ≤ 900001 := by have := HL1.out; omega
      rw [← hm] at hl3 hC3 HV ⊢
      clear hm
      have HC4 := Kp.mk hC4
      clear hC4 hl4
      by_cases h0 : 0 < m
      · have h0i : (0 : Int) < (m : Int) := by omega
        obtain ⟨ad, e3, _⟩ := ints_at hC3 0 h0
        subst e3
        have HC3 := Kp.mk hC3
        clear hC3
        go_wp2_with fail
        go_loopw [5, 6] (fun k i wr2 => ∃ a b : Nat, a < m ∧ b ≤ m ∧ k = .int .i64 a ∧ i = .int .i64 b ∧ Kp (∀ j, j < b → ys.getD a 0 ≤ ys.getD j 0) ∧ Kp ((Kd.int .i64).R 3 wr2 w.heap.size (fun k => some k ≠ (Value.slice A4 os.length c4).ownBlock) (.slice (some ad) m c3) ys) ∧ Kp ((Kd.int .i64).R 3 wr2 w.heap.size (fun _ => True) (.slice A4 os.length c4) os) ∧ Kp ((Kd.int .i64).C wr2 (some ad) m ys) ∧ Kp ((Kd.int .i64).C wr2 A4 os.length os) ∧ Kp (Below w.heap.size w wr2)) (fun _ i _ => m - (intOf i).toNat)
        case atStart => exact ⟨0, 0, h0, Nat.zero_le _, rfl, rfl, ⟨by omega⟩, HV, HU, HC3, HC4, HB⟩
        case round =>
          clear HV HU HC3 HC4 HB
          obtain ⟨a, b, ha, hb, rfl, rfl, HMin, HV, HU, HC3, HC4, HB⟩ := hrel
          have hai : (a : Int) < (m : Int) := by omega
          obtain ⟨_, e', c2⟩ := ints_at HC3.out a ha
          cases e'
          obtain ⟨y, hy⟩ : ∃ y, ys.getD a 0 = y := ⟨_, rfl⟩
          rw [hy] at c2
          have Hy := Kp.mk hy
          clear hy
          by_cases hlt : b < m
          · obtain ⟨_, e', c1⟩ := ints_at HC3.out b hlt
            cases e'
            obtain ⟨x, hx⟩ : ∃ x, ys.getD b 0 = x := ⟨_, rfl⟩
            rw [hx] at c1
            have Hx := Kp.mk hx
            clear hx
            have hbi : (b : Int) < (m : Int) := by omega
            by_cases hxy : x < y
            · have HN : Kp (∀ j, j < b + 1 → ys.getD b 0 ≤ ys.getD j 0) := ⟨fun j hj => by
                rw [Hx.out]
                by_cases hjb : j = b
                · subst hjb; rw [Hx.out]; exact Int.le_refl _
                · have := HMin.out j (by omega); rw [Hy.out] at this; omega⟩
              go_wp2_with fail
              go_quiet (fail)
              go_wp2
              go_roundw
              case rel => exact ⟨b, b + 1, by omega, by omega, rfl, by go_num, HN, ⟨Kd.R_move HV.out (fun _ _ => rfl)⟩, ⟨Kd.R_move HU.out (fun _ _ => rfl)⟩, ⟨Kd.C_drewN HC3.out _⟩, ⟨Kd.C_drewN HC4.out _⟩, ⟨pw_below_drewN HB.out _⟩⟩
              case measure => simp [intOf]; omega
            · have HN : Kp (∀ j, j < b + 1 → ys.getD a 0 ≤ ys.getD j 0) := ⟨fun j hj => by
                rw [Hy.out]
                by_cases hjb : j = b
                · subst hjb; rw [Hx.out]; omega
                · have := HMin.out j (by omega); rw [Hy.out] at this; exact this⟩
              go_wp2_with fail
              go_quiet (fail)
              go_wp2
              go_roundw
              case rel => exact ⟨a, b + 1, by omega, by omega, rfl, by go_num, HN, ⟨Kd.R_move HV.out (fun _ _ => rfl)⟩, ⟨Kd.R_move HU.out (fun _ _ => rfl)⟩, ⟨Kd.C_drewN HC3.out _⟩, ⟨Kd.C_drewN HC4.out _⟩, ⟨pw_below_drewN HB.out _⟩⟩
              case measure => simp [intOf]; omega
          · have HMn : Kp (∀ j, j < ys.length → ys.getD a 0 ≤ ys.getD j 0) := ⟨fun j hj => HMin.out j (by have := Hm.out; omega)⟩
            have HWs := Kp.mk HB.out.size
            have Ham : Kp (a < ys.length) := ⟨by have := Hm.out; omega⟩
            obtain ⟨i0, hi0, _, hi1, _⟩ := info_parts Try.infoInt
            have hcutA := cut_to (P := Try.prog) 29 3 .i64 Try.underlying29 hi0 (some ad) m c3 (a : Int) (by omega) (by omega) hl3
            have hcutB := cut_from (P := Try.prog) 29 3 .i64 Try.underlying29 hi0 1 hi1 (some ad) m c3 ((a : Int) + 1) (by omega) (by omega)
            rw [Int.toNat_natCast] at hcutA
            rw [show ((a : Int) + 1).toNat = a + 1 by omega] at hcutB
            obtain ⟨AD, hAD⟩ : ∃ AD, AD = (if c3 = a + 1 then some ad else (some ad).map (fun x : Addr => x.add ((a + 1) * 1))) := ⟨_, rfl⟩
            rw [← hAD] at hcutB
            have HAD := Kp.mk hAD
            clear hi0 hi1 HMin hAD
            have hw1 : IntKind.i64.wrap ((a : Int) + 1) = (a : Int) + 1 := IntWalk.i64_in _ ⟨by omega, by omega⟩
            by_cases hin : y ∈ os
            · have hd : decide (y ∈ os) = true := decide_eq_true hin
              have HS2 : Kp (SelI L os (ys.take a ++ ys.drop (a + 1))) := ⟨sel_in HSel.out Ham.out (by rw [Hy.out]; exact hin)⟩
              have Hd := Kp.mk hd
              clear hin hd
              go_wp2_with fail
              refine (ref_has y HC4.out).mono ?_
              rintro e w3 ⟨rfl, rfl⟩
              rw [Hd.out]
              clear Hd
              have hb1 : a + 1 ≤ ys.length := by have := Ham.out; omega
              have HT := Kp.mk (Kd.C_take (m := a) (show (Kd.int .i64).C _ (some ad) ys.length ys by have := Kd.C_drew HC3.out; rwa [Hm.out] at this) (by omega))
              have HD0 := Kp.mk (Kd.C_drop (m := a + 1) (c := c3) (show (Kd.int .i64).C _ (some ad) ys.length ys by have := Kd.C_drew HC3.out; rwa [Hm.out] at this) hb1 (by have := Hm.out; omega))
              have l1 : (ys.take a).length = a := by rw [List.length_take]; omega
              have l2 : (ys.drop (a + 1)).length = m - (a + 1) := by rw [List.length_drop]; have := Hm.out; omega
              rw [l1] at HT
              rw [l2] at HD0
              have HD1 : Kp ((Kd.int .i64).C w3.drew AD (m - (a + 1)) (ys.drop (a + 1))) := ⟨by rw [HAD.out]; exact HD0.out⟩
              have L1 := Kp.mk l1
              have L2 := Kp.mk l2
              clear hb1 l1 l2
              go_wp2_with fail
              refine wp_region_held_drew (S := fun _ => True) (by kernel_rfl) trivial (fun _ => ?_)
              refine wpAnyH_take (i := 0) (oi := _) (v := ?_) rfl (by kernel_rfl) (by kernel_rfl) (by kernel_rfl) (fun _ _ _ h => h) (Or.inl ⟨by rfl, ?_⟩) trivial ?_
              rotate_left
              · intro w5 hSw; go_simp; all_goals (with_reducible rfl)
              try simp only [List.getElem_toArray, List.getElem_cons_succ, List.getElem_cons_zero, Act.put, List.setIfInBounds_toArray, List.set_cons_zero, List.set_cons_succ]
              refine wpAnyH_take (i := 1) (oi := _) (v := ?_) rfl (by kernel_rfl) (by kernel_rfl) (by kernel_rfl) (fun _ _ _ h => h) (Or.inl ⟨by rfl, ?_⟩) trivial ?_
              rotate_left
              · intro w5 hSw; go_simp; all_goals (with_reducible rfl)
              try simp only [List.getElem_toArray, List.getElem_cons_succ, List.getElem_cons_zero, Act.put, List.setIfInBounds_toArray, List.set_cons_zero, List.set_cons_succ]
              refine wpAnyH_take (i := 2) (oi := _) (v := ?_) rfl (by kernel_rfl) (by kernel_rfl) (by kernel_rfl) (fun _ _ _ h => h) (Or.inl ⟨by rfl, ?_⟩) trivial ?_
              rotate_left
              · intro w5 hSw; go_simp; all_goals (with_reducible rfl)
              try simp only [List.getElem_toArray, List.getElem_cons_succ, List.getElem_cons_zero, Act.put, List.setIfInBounds_toArray, List.set_cons_zero, List.set_cons_succ]
              refine wpAnyH_take (i := 4) (oi := _) (v := ?_) rfl (by kernel_rfl) (by kernel_rfl) (by kernel_rfl) (fun _ _ _ h => h) (Or.inl ⟨by rfl, ?_⟩) trivial ?_
              rotate_left
              · intro w5 hSw; go_simp; all_goals (with_reducible rfl)
              try simp only [List.getElem_toArray, List.getElem_cons_succ, List.getElem_cons_zero, Act.put, List.setIfInBounds_toArray, List.set_cons_zero, List.set_cons_succ]
              refine wpAnyH_take (i := 5) (oi := _) (v := ?_) rfl (by kernel_rfl) (by kernel_rfl) (by kernel_rfl) (fun _ _ _ h => h) (Or.inl ⟨by rfl, ?_⟩) trivial ?_
              rotate_left
              · intro w5 hSw; go_simp; all_goals (with_reducible rfl)
              try simp only [List.getElem_toArray, List.getElem_cons_succ, List.getElem_cons_zero, Act.put, List.setIfInBounds_toArray, List.set_cons_zero, List.set_cons_succ]
              refine wpAnyH_take (i := 6) (oi := _) (v := ?_) rfl (by kernel_rfl) (by kernel_rfl) (by kernel_rfl) (fun _ _ _ h => h) (Or.inl ⟨by rfl, ?_⟩) trivial ?_
              rotate_left
              · intro w5 hSw; go_simp; all_goals (with_reducible rfl)
              try simp only [List.getElem_toArray, List.getElem_cons_succ, List.getElem_cons_zero, Act.put, List.setIfInBounds_toArray, List.set_cons_zero, List.set_cons_succ]
              refine wpAnyH_take (i := 7) (oi := _) (v := ?_) rfl (by kernel_rfl) (by kernel_rfl) (by kernel_rfl) (fun _ _ _ h => h) (Or.inl ⟨by rfl, ?_⟩) trivial ?_
              rotate_left
              · intro w5 hSw; go_simp; all_goals (with_reducible rfl)
              try simp only [List.getElem_toArray, List.getElem_cons_succ, List.getElem_cons_zero, Act.put, List.setIfInBounds_toArray, List.set_cons_zero, List.set_cons_succ]
              refine wpAnyH_ready (rs := [3]) (by kernel_rfl) (by simp) ?_
              refine AllReadyH.cons (o := _) rfl (fun K hK => ?_) AllReadyH.nil
              refine Kd.R_append_rows_step (Kd.int .i64) (Rr := (Kd.int .i64).K w3.drew) (w0 := w3.drew) (W := w3.drew) w3.drew.heap.size (by rfl) (.const (.slice none 0 0)) (.tmp 53) 29 3 (.int .i64 0) 8 rfl Try.underlying29 Try.infoInt rfl (by decide) (by omega) (.slice none 0 0) [] (ys.take a) (some ad) a c3 (fun _ => True) (fun _ => False) rfl rfl (Kd.R_nil _ _ _ _ _) HT.out (fun _ _ h => h) (fun _ h => h.elim) (fun _ _ => trivial) (Below.refl _ _) (Nat.le_refl _) (by simp; omega) ?_
              intro v6 w6 hR hB hg hat
              have HR6 := Kp.mk hR
              have HB6 := Kp.mk hB
              clear hR hB hg hat
              refine hK.out _ _ trivial (fun _ => ?_)
              clear hK K
              try simp only [List.getElem_toArray, List.getElem_cons_succ, List.getElem_cons_zero, Act.put, List.setIfInBounds_toArray, List.set_cons_zero, List.set_cons_succ]
              refine wpAnyH_ready (rs := [8]) (by kernel_rfl) (by simp) ?_
              refine AllReadyH.cons (o := _) rfl (fun K hK => ?_) AllReadyH.nil
              refine Kd.R_append_rows_step (Kd.int .i64) (Rr := (Kd.int .i64).K w6) (w0 := w3.drew) (W := w6) w3.drew.heap.size (by rfl) (.tmp 54) (.tmp 58) 29 3 (.int .i64 0) 8 rfl Try.underlying29 Try.infoInt rfl (by decide) (by omega) v6 ([] ++ ys.take a) (ys.drop (a + 1)) _ (m - (a + 1)) (c3 - (a + 1)) (fun _ => True) (fun _ => False) rfl rfl HR6.out (Kd.C_below HD1.out HB6.out) (fun _ _ h => h) (fun _ h => h.elim) (fun _ _ => trivial) HB6.out HB6.out.size (by rw [List.nil_append, L1.out]; omega) ?_
              intro v7 w7 hR hB hg hat
              have HV7 := Kp.mk (R_fresh (base := w.heap.size) (u := (.slice A4 os.length c4)) (W := w3.drew) hR (Kd.R_move HU.out (fun _ _ => rfl)) HWs.out)
              have HU7 := Kp.mk (Kd.R_below (Kd.R_move (w1 := w3.drew) HU.out (fun _ _ => rfl)) hB)
              have HB7 := Kp.mk ((HB.out.drew).trans (hB.mono HWs.out))
              clear hR hB hg hat
              refine hK.out _ _ trivial (fun _ => ?_)
              clear hK K
              try simp only [List.getElem_toArray, List.getElem_cons_succ, List.getElem_cons_zero, Act.put, List.setIfInBounds_toArray, List.set_cons_zero, List.set_cons_succ]
              refine wpAnyH_take (i := 9) (oi := _) (v := ?_) rfl (by kernel_rfl) (by kernel_rfl) (by kernel_rfl) (fun _ _ _ h => h) (Or.inl ⟨by rfl, ?_⟩) trivial ?_
              rotate_left
              · intro w5 hSw; go_simp; all_goals (with_reducible rfl)
              try simp only [List.getElem_toArray, List.getElem_cons_succ, List.getElem_cons_zero, Act.put, List.setIfInBounds_toArray, List.set_cons_zero, List.set_cons_succ]
              refine wpAnyH_done (by kernel_rfl) ?_ _
              clear hcutA hcutB hw1
              go_wp2_with fail
              go_roundw
              case rel => exact ⟨ys.take a ++ ys.drop (a + 1), os, ⟨by have h1 := HL1.out; have h2 := L1.out; have h3 := L2.out; have h4 := Hm.out; have h5 := Ham.out; simp only [List.length_append, List.length_singleton]; omega⟩, ⟨by have := HV7.out; rwa [List.nil_append] at this⟩, HU7, HS2, HB7⟩
              case measure =>
                obtain ⟨A9, c9, e9⟩ := Kd.R_slice HV7.out
                rw [e9]
                show (([] ++ ys.take a) ++ ys.drop (a + 1)).length < m
                have h2 := L1.out
                have h3 := L2.out
                simp only [List.nil_append, List.length_append]
                omega
            · have hd : decide (y ∈ os) = false := decide_eq_false hin
              have HS2 : Kp (SelI L (os ++ [y]) (ys.take a ++ ys.drop (a + 1))) := ⟨by have := sel_out HSel.out Ham.out HMn.out (by rw [Hy.out]; exact hin); rwa [Hy.out] at this⟩
              have Hd := Kp.mk hd
              clear hin hd
              go_wp2_with fail
              refine (ref_has y HC4.out).mono ?_
              rintro e w3 ⟨rfl, rfl⟩
              rw [Hd.out]
              clear Hd
              obtain ⟨_, e', c1⟩ := ints_at HC3.out a ha
              cases e'
              rw [Hy.out] at c1
              have HOl : Kp (os.length ≤ 900001) := ⟨by have := HL1.out; omega⟩
              go_wp2_with (at_builtin; refine Kd.R_append (Kd.int .i64) (w0 := w) w.heap.size rfl (.tmp 44) (.tmp 49) 29 3 (.int .i64 0) 8 rfl Try.underlying29 Try.infoInt rfl (by decide) (by omega) (.slice A4 os.length c4) os y [.int .i64 y] (fun _ => True) (fun _ => False) rfl rfl rfl (fun _ hk => hk.elim) (fun _ _ => trivial) HU.out HB.out HWs.out (by have := HOl.out; omega) ?_; intro v5 w5 hR hB hg hat; have HV0 := Kp.mk (R_apart HV.out hg hat); have HU0 := Kp.mk hR; have HB0 := Kp.mk hB; clear hR hB hg hat)
              clear c1 c2 HC4 HC3
              have HC3 := Kp.mk (Kd.R_reads' HV0.out).2.2
              rw [← Hm.out] at HC3
              clear HV HU HB HWs
              have HB := HB0
              have HWs := Kp.mk HB.out.size
              clear HB0
              have hb1 : a + 1 ≤ ys.length := by have := Ham.out; omega
              have HT := Kp.mk (Kd.C_take (m := a) (show (Kd.int .i64).C _ (some ad) ys.length ys by have := Kd.C_drew HC3.out; rwa [Hm.out] at this) (by omega))
              have HD0 := Kp.mk (Kd.C_drop (m := a + 1) (c := c3) (show (Kd.int .i64).C _ (some ad) ys.length ys by have := Kd.C_drew HC3.out; rwa [Hm.out] at this) hb1 (by have := Hm.out; omega))
              have l1 : (ys.take a).length = a := by rw [List.length_take]; omega
              have l2 : (ys.drop (a + 1)).length = m - (a + 1) := by rw [List.length_drop]; have := Hm.out; omega
              rw [l1] at HT
              rw [l2] at HD0
              have HD1 : Kp ((Kd.int .i64).C w5.drew AD (m - (a + 1)) (ys.drop (a + 1))) := ⟨by rw [HAD.out]; exact HD0.out⟩
              have L1 := Kp.mk l1
              have L2 := Kp.mk l2
              clear hb1 l1 l2
              go_wp2_with fail
              refine wp_region_held_drew (S := fun _ => True) (by kernel_rfl) trivial (fun _ => ?_)
              refine wpAnyH_take (i := 0) (oi := _) (v := ?_) rfl (by kernel_rfl) (by kernel_rfl) (by kernel_rfl) (fun _ _ _ h => h) (Or.inl ⟨by rfl, ?_⟩) trivial ?_
              rotate_left
              · intro w5 hSw; go_simp; all_goals (with_reducible rfl)
              try simp only [List.getElem_toArray, List.getElem_cons_succ, List.getElem_cons_zero, Act.put, List.setIfInBounds_toArray, List.set_cons_zero, List.set_cons_succ]
              refine wpAnyH_take (i := 1) (oi := _) (v := ?_) rfl (by kernel_rfl) (by kernel_rfl) (by kernel_rfl) (fun _ _ _ h => h) (Or.inl ⟨by rfl, ?_⟩) trivial ?_
              rotate_left
              · intro w5 hSw; go_simp; all_goals (with_reducible rfl)
              try simp only [List.getElem_toArray, List.getElem_cons_succ, List.getElem_cons_zero, Act.put, List.setIfInBounds_toArray, List.set_cons_zero, List.set_cons_succ]
              refine wpAnyH_take (i := 2) (oi := _) (v := ?_) rfl (by kernel_rfl) (by kernel_rfl) (by kernel_rfl) (fun _ _ _ h => h) (Or.inl ⟨by rfl, ?_⟩) trivial ?_
              rotate_left
              · intro w5 hSw; go_simp; all_goals (with_reducible rfl)
              try simp only [List.getElem_toArray, List.getElem_cons_succ, List.getElem_cons_zero, Act.put, List.setIfInBounds_toArray, List.set_cons_zero, List.set_cons_succ]
              refine wpAnyH_take (i := 4) (oi := _) (v := ?_) rfl (by kernel_rfl) (by kernel_rfl) (by kernel_rfl) (fun _ _ _ h => h) (Or.inl ⟨by rfl, ?_⟩) trivial ?_
              rotate_left
              · intro w5 hSw; go_simp; all_goals (with_reducible rfl)
              try simp only [List.getElem_toArray, List.getElem_cons_succ, List.getElem_cons_zero, Act.put, List.setIfInBounds_toArray, List.set_cons_zero, List.set_cons_succ]
              refine wpAnyH_take (i := 5) (oi := _) (v := ?_) rfl (by kernel_rfl) (by kernel_rfl) (by kernel_rfl) (fun _ _ _ h => h) (Or.inl ⟨by rfl, ?_⟩) trivial ?_
              rotate_left
              · intro w5 hSw; go_simp; all_goals (with_reducible rfl)
              try simp only [List.getElem_toArray, List.getElem_cons_succ, List.getElem_cons_zero, Act.put, List.setIfInBounds_toArray, List.set_cons_zero, List.set_cons_succ]
              refine wpAnyH_take (i := 6) (oi := _) (v := ?_) rfl (by kernel_rfl) (by kernel_rfl) (by kernel_rfl) (fun _ _ _ h => h) (Or.inl ⟨by rfl, ?_⟩) trivial ?_
              rotate_left
              · intro w5 hSw; go_simp; all_goals (with_reducible rfl)
              try simp only [List.getElem_toArray, List.getElem_cons_succ, List.getElem_cons_zero, Act.put, List.setIfInBounds_toArray, List.set_cons_zero, List.set_cons_succ]
              refine wpAnyH_take (i := 7) (oi := _) (v := ?_) rfl (by kernel_rfl) (by kernel_rfl) (by kernel_rfl) (fun _ _ _ h => h) (Or.inl ⟨by rfl, ?_⟩) trivial ?_
              rotate_left
              · intro w5 hSw; go_simp; all_goals (with_reducible rfl)
              try simp only [List.getElem_toArray, List.getElem_cons_succ, List.getElem_cons_zero, Act.put, List.setIfInBounds_toArray, List.set_cons_zero, List.set_cons_succ]
              refine wpAnyH_ready (rs := [3]) (by kernel_rfl) (by simp) ?_
              refine AllReadyH.cons (o := _) rfl (fun K hK => ?_) AllReadyH.nil
              refine Kd.R_append_rows_step (Kd.int .i64) (Rr := (Kd.int .i64).K w5.drew) (w0 := w5.drew) (W := w5.drew) w5.drew.heap.size (by rfl) (.const (.slice none 0 0)) (.tmp 53) 29 3 (.int .i64 0) 8 rfl Try.underlying29 Try.infoInt rfl (by decide) (by omega) (.slice none 0 0) [] (ys.take a) (some ad) a c3 (fun _ => True) (fun _ => False) rfl rfl (Kd.R_nil _ _ _ _ _) HT.out (fun _ _ h => h) (fun _ h => h.elim) (fun _ _ => trivial) (Below.refl _ _) (Nat.le_refl _) (by simp; omega) ?_
              intro v6 w6 hR hB hg hat
              have HR6 := Kp.mk hR
              have HB6 := Kp.mk hB
              clear hR hB hg hat
              refine hK.out _ _ trivial (fun _ => ?_)
              clear hK K
              try simp only [List.getElem_toArray, List.getElem_cons_succ, List.getElem_cons_zero, Act.put, List.setIfInBounds_toArray, List.set_cons_zero, List.set_cons_succ]
              refine wpAnyH_ready (rs := [8]) (by kernel_rfl) (by simp) ?_
              refine AllReadyH.cons (o := _) rfl (fun K hK => ?_) AllReadyH.nil
              refine Kd.R_append_rows_step (Kd.int .i64) (Rr := (Kd.int .i64).K w6) (w0 := w5.drew) (W := w6) w5.drew.heap.size (by rfl) (.tmp 54) (.tmp 58) 29 3 (.int .i64 0) 8 rfl Try.underlying29 Try.infoInt rfl (by decide) (by omega) v6 ([] ++ ys.take a) (ys.drop (a + 1)) _ (m - (a + 1)) (c3 - (a + 1)) (fun _ => True) (fun _ => False) rfl rfl HR6.out (Kd.C_below HD1.out HB6.out) (fun _ _ h => h) (fun _ h => h.elim) (fun _ _ => trivial) HB6.out HB6.out.size (by rw [List.nil_append, L1.out]; omega) ?_
              intro v7 w7 hR hB hg hat
              have HV7 := Kp.mk (R_fresh (base := w.heap.size) (u := v5) (W := w5.drew) hR (Kd.R_move HU0.out (fun _ _ => rfl)) HWs.out)
              have HU7 := Kp.mk (Kd.R_below (Kd.R_move (w1 := w5.drew) HU0.out (fun _ _ => rfl)) hB)
              have HB7 := Kp.mk ((HB.out.drew).trans (hB.mono HWs.out))
              clear hR hB hg hat
              refine hK.out _ _ trivial (fun _ => ?_)
              clear hK K
              try simp only [List.getElem_toArray, List.getElem_cons_succ, List.getElem_cons_zero, Act.put, List.setIfInBounds_toArray, List.set_cons_zero, List.set_cons_succ]
              refine wpAnyH_take (i := 9) (oi := _) (v := ?_) rfl (by kernel_rfl) (by kernel_rfl) (by kernel_rfl) (fun _ _ _ h => h) (Or.inl ⟨by rfl, ?_⟩) trivial ?_
              rotate_left
              · intro w5 hSw; go_simp; all_goals (with_reducible rfl)
              try simp only [List.getElem_toArray, List.getElem_cons_succ, List.getElem_cons_zero, Act.put, List.setIfInBounds_toArray, List.set_cons_zero, List.set_cons_succ]
              refine wpAnyH_done (by kernel_rfl) ?_ _
              clear hcutA hcutB hw1
              go_wp2_with fail
              go_roundw
              case rel => exact ⟨ys.take a ++ ys.drop (a + 1), os ++ [y], ⟨by have h1 := HL1.out; have h2 := L1.out; have h3 := L2.out; have h4 := Hm.out; have h5 := Ham.out; simp only [List.length_append, List.length_singleton]; omega⟩, ⟨by have := HV7.out; rwa [List.nil_append] at this⟩, HU7, HS2, HB7⟩
              case measure =>
                obtain ⟨A9, c9, e9⟩ := Kd.R_slice HV7.out
                rw [e9]
                show (([] ++ ys.take a) ++ ys.drop (a + 1)).length < m
                have h2 := L1.out
                have h3 := L2.out
                simp only [List.nil_append, List.length_append]
                omega
      · obtain rfl : ys = [] := List.eq_nil_of_length_eq_zero (by have := Hm.out; omega)
        have HLv := Kp.mk (HF.out _ HSel.out)
        go_wp2
        go_ret
        exact ⟨_, _, rfl, HU.out, HLv.out, HB.out⟩
end Go.Proofs.Ytgfkpddmjcgceaa.Kx
