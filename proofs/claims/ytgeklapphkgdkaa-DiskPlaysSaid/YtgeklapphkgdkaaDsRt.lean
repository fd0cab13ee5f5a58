import Derived.Test.YtgeklapphkgdkaaDsRs
import Derived.Deep.DeepCutAuto
import Derived.Deep.QuietTactic
import Derived.BigQuiet
import Derived.Deep.DrawnRows
set_option linter.unusedVariables false
set_option linter.unusedSimpArgs false
namespace Go.Proofs.Ytgeklapphkgdkaa.Dsk
open Go.RowKit Go.Maps
attribute [local go_sem ↓] Go.wp_at_zero Go.wp_at_succ

/-! ### The reference's disk: Crash -/
theorem frozen_qs {w W : World} {B n c m : Nat} {q : Nat} {xs : List Value} (hb : Below w.heap.size w W) (h : w.ownsRow B 88 3 (.slice (some ⟨q, 0, none⟩) n c) m xs) (j : Nat) : W.frozen? ⟨q, j, none⟩ = false :=
  own_free3 (rrow_heap h (fun k hk => hb.block k (rrow_lt h k hk))) j
theorem own00 {w : World} {B n c : Nat} {A : Option Addr} {xs : List Int} (h : w.ownsRow B 5 1 (.slice A (0 + n) c) (0 + n) (nums .u8 ([] ++ xs))) : w.ownsRow B 5 1 (.slice A n c) n (nums .u8 xs) := by
  rw [Nat.zero_add] at h
  exact h
theorem rd_take {w : World} {k : IntKind} {A : Option Addr} {n c m : Nat} {xs : List Int} (h : Rd w k A n c xs) (hm : m ≤ n) : Rd w k A m c (xs.take m) := by
  refine ⟨by rw [List.length_take, h.len]; omega, by have := h.max; omega, fun e => ⟨by have := (h.nil e).1; omega, (h.nil e).2⟩, fun hp => ?_⟩
  obtain ⟨ad, rfl, hc⟩ := h.cell (by omega)
  refine ⟨ad, rfl, fun j hj => ?_⟩
  rw [hc j (by omega)]
  simp [List.getD, hj]
theorem sameR {w : World} {B g : Nat} {σ σ' : DS} {S : Nat → Prop} {room : Int} {v : Value} {A : Option Addr} {c : Nat} {ps : List PF} (h : RD w B g σ S room v A c ps) (e : σ.files = σ'.files) (e1 : σ.room = σ'.room) (e2 : σ.fails = σ'.fails) (e3 : σ.failed = σ'.failed) : RD w B g σ' S room v A c ps := by
  obtain ⟨a1, a2, a3, a4⟩ := σ
  obtain ⟨b1, b2, b3, b4⟩ := σ'
  subst e e1 e2 e3
  exact h
set_option maxHeartbeats 8000000 in
set_option maxRecDepth 100000 in
theorem r_crash {w : World} {B g : Nat} {σ : DS} {S : Nat → Prop} (h : IsR w B g σ S) (keep : Int) (hk : -9223372036854775808 ≤ keep ∧ keep ≤ 9223372036854775807) :
    Calls Try.prog 41 #[.pointer (some ⟨g, 0, none⟩), .int .i64 keep] w fun e w' => e = .returned (.tuple #[]) ∧ PostR B g S (σ.crash keep) w w' := by
  obtain ⟨room, v, A, c, ps, hr⟩ := h
  obtain ⟨Av, nv, cv, rfl⟩ := hr.slice
  obtain ⟨hnv, hcv, _⟩ := hr.cells
  have HL : Kp (σ.files.length = nv) := ⟨by rw [hnv, ← hr.abs, List.length_map]⟩
  have hn1 : nv ≤ 1000 := by have := hr.most; omega
  have HgS := Kp.mk hr.gS
  have H0 := Kp.mk hr
  obtain ⟨kp, hkp⟩ : ∃ kp, kp = keep.toNat := ⟨_, rfl⟩
  have HKP := Kp.mk hkp
  clear hr hnv hkp
  go_enter Try.func41, Try.ntmps41
  go_wp2_with fail
  go_loopw [4] (fun i wr => ∃ (j : Nat) (ps' : List PF), i = .int .i64 (j : Nat) ∧ j ≤ nv ∧ Kp (RD wr B g (partC keep σ j) (fun k => S k ∨ w.heap.size ≤ k) room (.slice Av nv cv) A c ps') ∧ Kp (Fr w wr S)) (fun i _ => nv - (intOf i).toNat)
  case atStart => exact ⟨0, ps, rfl, Nat.zero_le _, ⟨by rw [partC_zero]; exact H0.out.mono (fun k _ hk => .inl hk)⟩, ⟨Fr.refl w S⟩⟩
  case round =>
    obtain ⟨j, ps', rfl, hj, HR, HF⟩ := hrel
    have hr := HR.out
    have d1 := cells_top hr.top 1 (.slice Av nv cv) rfl
    by_cases hjn : j < nv
    · obtain ⟨hnv, _, hcells⟩ := hr.cells
      obtain ⟨q, rfl, hqS, hqg, _, hcj⟩ := hcells (by omega)
      obtain ⟨nj, Aj, lj, cj, z0, z1, z2, hnm, hrd, hljc, hl16, hsy, _⟩ := hcj j hjn
      have hjn' : ¬ nv ≤ j := by omega
      have hjf : j < σ.files.length := by rw [HL.out]; exact hjn
      rw [partC_get keep σ j hjf] at z2 hrd hsy
      obtain ⟨sj, hsj⟩ : ∃ sj, sj = (σ.files.getD j afD).2.2 := ⟨_, rfl⟩
      obtain ⟨bj, hbj⟩ : ∃ bj, bj = (σ.files.getD j afD).2.1 := ⟨_, rfl⟩
      rw [← hsj] at z2 hsy
      rw [← hbj] at hrd
      have hlj := hrd.len
      obtain ⟨lo, hlo⟩ : ∃ lo, lo = lj - sj := ⟨_, rfl⟩
      obtain ⟨ka, hka⟩ : ∃ ka, ka = min kp lo := ⟨_, rfl⟩
      obtain ⟨ks, hks⟩ : ∃ ks, ks = sj + ka := ⟨_, rfl⟩
      have hkk : ks = keepN keep (σ.files.getD j afD).2 := by unfold keepN; rw [← hsj, ← hbj, hlj, hks, hka, hlo, HKP.out]
      have HKK : Kp (crA keep (σ.files.getD j afD) = ((σ.files.getD j afD).1, (bj.take ks, ks))) := ⟨by unfold crA crash1; rw [← hkk, ← hbj]⟩
      have HJF := Kp.mk hjf
      have HSJ := Kp.mk hsj
      have HBJ := Kp.mk hbj
      have HRD := Kp.mk hrd
      have HQS := Kp.mk hqS
      have HJN := Kp.mk hjn
      have hwl : IntKind.i64.wrap ((lj : Int) - (sj : Int)) = (lo : Int) := (IntWalk.i64_in _ (by omega)).trans (by omega)
      have hws : IntKind.i64.wrap ((sj : Int) + (ka : Int)) = (ks : Int) := (IntWalk.i64_in _ (by omega)).trans (by omega)
      have hk1 : (kp : Int) = max 0 keep := by rw [HKP.out]; omega
      have HK1 := Kp.mk hk1
      have HKA := Kp.mk hka
      have HKS := Kp.mk hks
      have hksl : ks ≤ lj := by omega
      have HLJ := Kp.mk hlj
      have HKSL := Kp.mk hksl
      have hl0 : 0 ≤ (lo : Int) := by omega
      have hkpb : (kp : Int) ≤ 9223372036854775807 := by omega
      clear hnv hcells hcj hsj hrd hqS hr hbj hlj hlo hka hks hkk hjf hk1 hnm hksl
      go_upto_region 3 with fail
      go_cut [5] (fun l wx => l = .int .i64 (lo : Nat) ∧ Kp (Below wr.heap.size wr wx))
      case first =>
        go_quiet (fail)
        go_wp2_with fail
        go_meet
        exact ⟨rfl, ⟨below_drewN (Below.refl _ _) _⟩⟩
      case rest =>
        obtain ⟨rfl, HBA⟩ := hcut
        obtain ⟨wA, rfl⟩ : ∃ W, W = wc := ⟨_, rfl⟩
        go_upto_if 36 with fail
        go_cut [6] (fun k wx => k = .int .i64 (kp : Nat) ∧ wA = wx)
        case first =>
          go_wp2_with fail
          all_goals
            go_meet
            exact ⟨by rw [HK1.out]; first | rw [Int.max_eq_left (by omega)] | rw [Int.max_eq_right (by omega)], rfl⟩
        case rest =>
          obtain ⟨rfl, rfl⟩ := hcut
          go_upto_if 39 with fail
          go_cut [6] (fun k wx => k = .int .i64 (ka : Nat) ∧ wA = wx)
          case first =>
            go_wp2_with fail
            all_goals
              go_meet
              exact ⟨by rw [HKA.out]; first | rw [Nat.min_eq_left (by omega)] | rw [Nat.min_eq_right (by omega)], rfl⟩
          case rest =>
            obtain ⟨rfl, rfl⟩ := hcut
            have HRA := Kp.mk (HR.out.below HBA.out)
            have y1 := cells_top HRA.out.top 1 (.slice (some ⟨q, 0, none⟩) nv cv) rfl
            have y2 := cell_kept HBA.out z2
            have fz2 := own_free3 HRA.out.own (j * 3 + 2)
            clear d1 z0 z1 z2
            go_upto_region 9 with fail
            go_cut [] (fun wx => Kp (Fr wA wx (fun k => k = q)) ∧ ∃ ps2, Kp (RD wx B g { partC keep σ j with files := (partC keep σ j).files.set j ((σ.files.getD j afD).1, (bj, ks)) } (fun k => S k ∨ w.heap.size ≤ k) room (.slice (some ⟨q, 0, none⟩) nv cv) A c ps2))
            case first =>
              go_region_law (fail)
              all_goals
                go_wp2_with fail
                go_meet
                have hsyn := HRA.out.syn HJN.out ((Below.refl _ _).drew) (s := ks) (by rw [partC_get keep σ j HJF.out, ← HBJ.out, HLJ.out]; exact HKSL.out)
                rw [partC_get keep σ j HJF.out, ← HBJ.out] at hsyn
                obtain ⟨ps2, _, h2⟩ := hsyn
                exact ⟨⟨((Fr.refl wA (fun k => k = q)).drew).setCell (a := ⟨q, j * 3 + 2, none⟩) (.inl rfl) _⟩, ps2, ⟨h2⟩⟩
            case rest =>
              obtain ⟨HFB, ps2, HRB⟩ := hcut
              obtain ⟨wB, rfl⟩ : ∃ W, W = wc := ⟨_, rfl⟩
              have hr := HRB.out
              have d1 := cells_top hr.top 1 (.slice (some ⟨q, 0, none⟩) nv cv) rfl
              obtain ⟨hnv2, _, hcells⟩ := hr.cells
              clear hnv2
              obtain ⟨q2, hq2, _, _, _, hcj⟩ := hcells (by omega)
              obtain rfl : q = q2 := by injection hq2 with hq2; injection hq2
              obtain ⟨nj2, Aj2, lj2, cj2, z0, z1, z2, hnm2, hrd2, hljc2, hl162, hsy2, _⟩ := hcj j hjn
              have hgs : ((partC keep σ j).files.set j ((σ.files.getD j afD).1, (bj, ks))).getD j afD = ((σ.files.getD j afD).1, (bj, ks)) := by
                have : j < (partC keep σ j).files.length := by rw [partC_len keep σ j (Nat.le_of_lt HJF.out)]; exact HJF.out
                simp [List.getD, this]
              simp only [hgs] at z2 hrd2 hsy2
              have HGS := Kp.mk hgs
              have hlj2 : lj2 = lj := hrd2.len.symm.trans HLJ.out
              have HT := Kp.mk (rd_take hrd2 (m := ks) hsy2)
              have fz1 := own_free3 hr.own (j * 3 + 1)
              have HOW := Kp.mk hr.own
              have hkc : ks ≤ cj2 := by omega
              have HL1 : Kp (0 + ks ≤ 100000000) := ⟨by omega⟩
              have HL2 : Kp (ks ≤ 16777216) := ⟨by omega⟩
              clear hr hcells hcj hrd2 hgs hlj2 hq2 y1 y2 fz2
              go_wp2_with fail
              have HEND : Kp (∀ A4 c4 w4, Below wB.heap.size wB w4 → w4.ownsRow wB.heap.size 5 1 (.slice A4 ks c4) ks (nums .u8 (bj.take ks)) → ∃ ps5, Kp (RD (w4.setCell ⟨q, j * 3 + 1, none⟩ (.slice A4 ks c4)) B g (partC keep σ (j + 1)) (fun k => S k ∨ w.heap.size ≤ k) room (.slice (some ⟨q, 0, none⟩) nv cv) A c ps5) ∧ Kp (Fr w (w4.setCell ⟨q, j * 3 + 1, none⟩ (.slice A4 ks c4)) S)) := ⟨by
                intro A4 c4 w4 HB4 HO4
                obtain ⟨ps5, _, h5⟩ := HRB.out.bytes HJN.out HB4 HO4 HL2.out (by simp only [HGS.out]; exact Nat.le_refl _)
                simp only [HGS.out, List.set_set] at h5
                rw [← HKK.out, partC_set keep σ j HJF.out] at h5
                refine ⟨ps5, ⟨(sameR h5 (σ' := partC keep σ (j + 1)) rfl rfl rfl rfl).mono (fun k _ hk => hk.elim (fun h => h) (fun h => .inr (Nat.le_trans HF.out.size (Nat.le_trans HBA.out.size (Nat.le_trans HFB.out.size h)))))⟩, ⟨?_⟩⟩
                have h1 : Fr w wB S := (HF.out.below HBA.out).trans HFB.out (fun k hk => by rw [hk]; exact HQS.out)
                exact (h1.below HB4).setCell (a := ⟨q, j * 3 + 1, none⟩) HQS.out _⟩
              have hjw : IntKind.i64.wrap ((j : Int) + 1) = ((j + 1 : Nat) : Int) := (IntWalk.i64_in _ (by omega)).trans (by omega)
              go_region_law (first
                | (refine step_appb (w0 := wB) rfl (.const (.slice none 0 0)) (.tmp 79) rfl ((Below.refl _ _).drew) (.slice none 0 0) 0 ks cj2 [] _ Aj2 rfl rfl (World.ownsRow_nil _ _ _ _) (HT.out.below ((Below.refl _ _).drew)) HL1.out ?_
                   intro A4 c4 w4 h1 h2
                   have d5 := cell_kept h1 d1
                   have d6 := cell_kept h1 z1
                   have f7 := frozen_qs h1 HOW.out (j * 3 + 1)
                   have HB4 := Kp.mk h1
                   have HO4 := Kp.mk (own00 h2)
                   clear h1 h2))
              all_goals
                (try simp only [])
                repeat (first | go_values | go_skip | go_guarded | go_step)
                go_roundw
                case rel =>
                  obtain ⟨ps5, h5, h6⟩ := HEND.out _ _ _ HB4.out HO4.out
                  exact ⟨j + 1, ps5, by go_num, by have := HJN.out; omega, h5, h6⟩
                case measure => simp [intOf]; omega
    · obtain rfl : nv = j := by omega
      go_wp2_with fail
      go_end0
      have hr5 := HR.out
      rw [← HL.out, partC_all] at hr5
      exact ⟨rfl, ⟨_, _, _, _, _, hr5⟩, HF.out⟩
end Go.Proofs.Ytgeklapphkgdkaa.Dsk
