import Derived.Test.YtgeklapphkgdkaaDsRk
import Derived.Test.YtgeklapphkgdkaaDskF
set_option linter.unusedVariables false
set_option linter.unusedSimpArgs false
namespace Go.Proofs.Ytgeklapphkgdkaa.Dsk
open Go.RowKit Go.Maps

/-! ### The reference's disk: Sync -/
theorem hasA_at {nm : List UInt8} {fs : AF} (h : hasA nm fs = true) : posA nm fs < fs.length ∧ (fs.getD (posA nm fs) afD).1 = nm := by
  unfold hasA at h
  rw [Bool.and_eq_true] at h
  exact ⟨of_decide_eq_true h.1, by simpa using h.2⟩
theorem sync_eq {σ : DS} (nm : ByteArray) (hs : Srt σ.files) : σ.sync nm = if foundR σ nm = 0 then (0, { σ.down.2 with files := σ.down.2.files.set (posA nm.data.toList σ.files) (nm.data.toList, ((σ.files.getD (posA nm.data.toList σ.files) afD).2.1, (σ.files.getD (posA nm.data.toList σ.files) afD).2.1.length)) }) else (foundR σ nm, σ.down.2) := by
  obtain ⟨h1, h2⟩ := begin_found nm hs
  have hd := (down_files σ).1
  unfold DS.sync
  rcases h2 with ⟨a, b, d⟩ | ⟨a, b, d⟩ | ⟨a, b⟩
  · have hh : hasA nm.data.toList σ.files = true := by
      rw [hd, look_has _ hs] at d
      by_cases hh : hasA nm.data.toList σ.files = true
      · exact hh
      · rw [if_neg hh] at d; cases d
    simp only [b, h1, d, a, if_true]
    rw [setA_pos _ _ (by rw [hd]; exact hs) (by rw [hd]; exact hh), hd]
  · simp only [b, h1, d, a, if_true]
    rw [if_neg (by omega)]
  · simp only
    rw [if_neg (by rw [b]; exact a), if_neg a]
    exact Prod.ext b h1
theorem own_free3 {w : World} {B n c m : Nat} {q : Nat} {xs : List Value} (h : w.ownsRow B 88 3 (.slice (some ⟨q, 0, none⟩) n c) m xs) (j : Nat) : w.frozen? ⟨q, j, none⟩ = false := by
  rcases h.2 with ⟨e1, e2⟩ | ⟨q2, cap, cur, e1, hB, hh, _⟩
  · cases e1
  · injection e1 with e1 _ _
    injection e1 with e1
    injection e1 with e1 _ _
    subst e1
    exact free_top hh j
theorem RD.ghost {w : World} {B g : Nat} {σ : DS} {S : Nat → Prop} {room : Int} {Av : Option Addr} {nv cv : Nat} {A : Option Addr} {c : Nat} {ps : List PF} (h : RD w B g σ S room (.slice Av nv cv) A c ps) {p : Nat} (hp : p < nv) :
    p < ps.length ∧ (ps.getD p (#[], ([], [], 0))) ∈ ps ∧ (ps.getD p (#[], ([], [], 0))).2 = σ.files.getD p afD := by
  obtain ⟨hnv, _, _⟩ := h.cells
  have hj : p < ps.length := by omega
  refine ⟨hj, by simp [List.getD, hj], ?_⟩
  rw [← h.abs]
  simp [List.getD, hj]
set_option maxHeartbeats 4000000 in
set_option maxRecDepth 100000 in
theorem r_sync {w : World} {B g : Nat} {σ : DS} {S : Nat → Prop} (h : IsR w B g σ S) (nm : ByteArray) (hs : nm.size ≤ 100000) :
    Calls Try.prog 36 #[.pointer (some ⟨g, 0, none⟩), .string nm] w fun e w' => e = .returned (.int .i64 (σ.sync nm).1) ∧ PostR B g S (σ.sync nm).2 w w' := by
  obtain ⟨room, v, A, c, ps, hr⟩ := h
  obtain ⟨Av, nv, cv, rfl⟩ := hr.slice
  have HF := Kp.mk (r_found hr nm hs)
  have HE := Kp.mk (sync_eq nm hr.srt)
  have HDF := Kp.mk (down_files σ).1
  obtain ⟨fr, hfr⟩ : ∃ fr, fr = foundR σ nm := ⟨_, rfl⟩
  have HFR := Kp.mk hfr
  clear hr hfr
  go_enter Try.func36, Try.ntmps36
  go_wp2_with fail
  refine HF.out.mono ?_
  rintro e w1 ⟨i, rfl, hi, hf1, A1, c1, hr1⟩
  rw [← HFR.out] at hi ⊢
  have HF1 := Kp.mk hf1
  have HR1 := Kp.mk hr1
  by_cases h0 : fr = 0
  · obtain ⟨rfl, hh⟩ := hi h0
    subst h0
    obtain ⟨hnv, hcv, hcells⟩ := hr1.cells
    have hha := hasA_at hh
    obtain ⟨p, hp⟩ : ∃ p, p = posA nm.data.toList σ.files := ⟨_, rfl⟩
    have hpn : p < nv := by
      rw [hnv, hp, ← List.length_map (f := fun p : PF => p.2), hr1.abs, HDF.out]
      exact hha.1
    obtain ⟨q, rfl, hqS, _, _, hcj⟩ := hcells (by omega)
    obtain ⟨hpl, hmem, hgh⟩ := hr1.ghost hpn
    obtain ⟨nj, Aj, lj, cj, ej, g1, hrd, g3, g4, g5, g6⟩ := (hr1.file _ hmem).out
    have hg := fun i hi => flat3_get hr1.file hpl (j := i) hi
    rw [ej] at hg
    obtain ⟨_, _, h3, _⟩ := own_row3 hr1.own hr1.file
    obtain ⟨q2, hq2, hc⟩ := h3 (by omega)
    obtain rfl : q = q2 := by injection hq2 with e; injection e
    have z1 := hc (p * 3 + 1) _ ((hg 1 (by omega)).trans rfl)
    have z2 := hc (p * 3 + 2) _ ((hg 2 (by omega)).trans rfl)
    have hfz := own_free3 hr1.own (p * 3 + 2)
    have hlj := hrd.len
    rw [hgh, HDF.out] at hlj
    have HSZ : Kp (σ.sync nm = (0, { σ.down.2 with files := σ.down.2.files.set p (nm.data.toList, ((σ.files.getD p afD).2.1, lj)) })) := ⟨by rw [HE.out, ← HFR.out, if_pos rfl, ← hp, hlj]⟩
    have hpn' : ¬ nv ≤ p := by omega
    have d1 := cells_top hr1.top 1 (.slice (some ⟨q, 0, none⟩) nv cv) rfl
    rw [← hp]
    have hput : ∀ W, Below w1.heap.size w1 W → RD (W.setCell ⟨q, p * 3 + 2, none⟩ (.int .i64 (lj : Nat))) B g { σ.down.2 with files := σ.down.2.files.set p (nm.data.toList, ((σ.files.getD p afD).2.1, lj)) } S room (.slice (some ⟨q, 0, none⟩) nv cv) A1 c1 (ps.set p (#[.string nj, .slice Aj lj cj, .int .i64 (lj : Nat)], (nm.data.toList, ((σ.files.getD p afD).2.1, lj)))) := fun W hW => by
      have hrW := hr1.below hW
      refine hrW.put hpl (by omega) (by rw [ej]; rfl) ?_ ?_ ?_
      · rw [HDF.out, hp]; exact hha.2.symm
      · refine ⟨nj, Aj, lj, cj, rfl, ?_, ?_, g3, g4, Nat.le_refl _, g6⟩
        · rw [g1, hgh, HDF.out, hp]; exact hha.2
        · rw [hgh, HDF.out] at hrd
          refine (hrd.below hW).kept ((Fr.refl W (fun k => k = q)).setCell (a := ⟨q, p * 3 + 2, none⟩) (.inl rfl) _) (fun ad e hn he => ?_)
          have := (hr1.far _ hmem ad lj cj (by rw [ej, e]; simp) hn).2.2
          exact this (by rw [he]; rfl)
      · intro A' n' c' hm hn
        have := hr1.far _ hmem A' n' c' (by rw [ej]; simpa using hm) hn
        exact ⟨this.1, this.2.1, fun e => this.2.2 (by rw [e]; rfl)⟩
    have HPut := Kp.mk hput
    have HqS := Kp.mk hqS
    have HgS := Kp.mk hr1.gS
    clear hf1 hr1 hcells hcj hrd hlj hh hi hp HF hg hc h3 hmem hgh ej hput hha g1
    go_wp2_with fail
    go_region
    all_goals
      go_wp2_with fail
      go_ret
      rw [HSZ.out]
      exact ⟨rfl, ⟨⟨_, _, _, _, _, (HPut.out _ (below_drewN (Below.refl _ _) _)).mono (fun k _ hk => .inl hk)⟩, ((HF1.out.mono (fun k _ hk => by rw [hk]; exact HgS.out)).drewN _).setCell (a := ⟨q, p * 3 + 2, none⟩) (.inl HqS.out) _⟩⟩
  · have h1 : (fr == 0) = false := by simpa using h0
    have h2 : (fr != 0) = true := by simpa using h0
    have HSZ : Kp (σ.sync nm = (fr, σ.down.2)) := ⟨by rw [HE.out, ← HFR.out, if_neg h0]⟩
    clear hi hf1 hr1 h0 HF
    go_wp2_with fail
    go_ret
    rw [HSZ.out]
    exact ⟨rfl, postR_of HF1.out HR1.out⟩
end Go.Proofs.Ytgeklapphkgdkaa.Dsk
