import Derived.Test.YtgeklapphkgdkaaDsRe
import Derived.Test.YtgeklapphkgdkaaDskK
set_option linter.unusedVariables false
set_option linter.unusedSimpArgs false
namespace Go.Proofs.Ytgeklapphkgdkaa.Dsk
open Go.RowKit Go.Maps

/-! ### The reference's disk: Size, Read, Fail, Failed -/
theorem begin_found {σ : DS} (nm : ByteArray) (hs : Srt σ.files) : (σ.begin (nameOk nm)).2 = σ.down.2 ∧
    ((foundR σ nm = 0 ∧ (σ.begin (nameOk nm)).1 = 0 ∧ lookA nm.data.toList σ.down.2.files = some (σ.files.getD (posA nm.data.toList σ.files) afD).2) ∨
      (foundR σ nm = 8 ∧ (σ.begin (nameOk nm)).1 = 0 ∧ lookA nm.data.toList σ.down.2.files = none) ∨ (foundR σ nm ≠ 0 ∧ (σ.begin (nameOk nm)).1 = foundR σ nm)) := by
  rw [begin_down, (down_files σ).1, look_has nm.data.toList hs]
  refine ⟨rfl, ?_⟩
  unfold foundR
  cases hd : σ.down.1
  · cases hn : nameOk nm
    · exact .inr (.inr ⟨by simp, by simp⟩)
    · cases hh : hasA nm.data.toList σ.files
      · exact .inr (.inl ⟨by simp, by simp, by simp⟩)
      · exact .inl ⟨by simp, by simp, by simp⟩
  · exact .inr (.inr ⟨by simp, by simp⟩)
theorem postR_of {w w' : World} {B g : Nat} {σ' : DS} {S : Nat → Prop} {room : Int} {v : Value} {A : Option Addr} {c : Nat} {ps : List PF} (hf : Fr w w' (fun k => k = g)) (h : RD w' B g σ' S room v A c ps) : PostR B g S σ' w w' :=
  ⟨⟨room, v, A, c, ps, h.mono (fun k _ hk => .inl hk)⟩, hf.mono (fun k _ hk => by rw [hk]; exact h.gS)⟩
theorem size_eq {σ : DS} (nm : ByteArray) (hs : Srt σ.files) : σ.size nm = (foundR σ nm, σ.down.2, if foundR σ nm = 0 then (σ.files.getD (posA nm.data.toList σ.files) afD).2.1.length else 0) := by
  obtain ⟨h1, h2⟩ := begin_found nm hs
  unfold DS.size
  rcases h2 with ⟨a, b, d⟩ | ⟨a, b, d⟩ | ⟨a, b⟩
  · simp only [b, h1, d, a, if_true]
  · simp only [b, h1, d, a, if_true]
    rw [if_neg (by omega)]
  · rw [if_neg (by rw [b]; exact a), if_neg a, b, h1]
set_option maxHeartbeats 2000000 in
set_option maxRecDepth 100000 in
theorem r_size {w : World} {B g : Nat} {σ : DS} {S : Nat → Prop} (h : IsR w B g σ S) (nm : ByteArray) (hs : nm.size ≤ 100000) :
    Calls Try.prog 43 #[.pointer (some ⟨g, 0, none⟩), .string nm] w fun e w' => e = .returned (.tuple #[.int .i64 (σ.size nm).2.2, .int .i64 (σ.size nm).1]) ∧ PostR B g S (σ.size nm).2.1 w w' := by
  obtain ⟨room, v, A, c, ps, hr⟩ := h
  obtain ⟨Av, nv, cv, rfl⟩ := hr.slice
  have HF := Kp.mk (r_found hr nm hs)
  have HE := Kp.mk (size_eq nm hr.srt)
  have HDF := Kp.mk (down_files σ).1
  obtain ⟨fr, hfr⟩ : ∃ fr, fr = foundR σ nm := ⟨_, rfl⟩
  have HFR := Kp.mk hfr
  clear hr hfr
  go_enter Try.func43, Try.ntmps43
  go_wp2_with fail
  refine HF.out.mono ?_
  rintro e w1 ⟨i, rfl, hi, hf1, A1, c1, hr1⟩
  rw [← HFR.out] at hi ⊢
  have HF1 := Kp.mk hf1
  have HR1 := Kp.mk hr1
  by_cases h0 : fr = 0
  · obtain ⟨rfl, hh⟩ := hi h0
    subst h0
    obtain ⟨hnv, hcv, hcells⟩ := hr1.cells
    obtain ⟨p, hp⟩ : ∃ p, p = posA nm.data.toList σ.files := ⟨_, rfl⟩
    have hpn : p < nv := by
      unfold hasA at hh
      rw [Bool.and_eq_true] at hh
      have := of_decide_eq_true hh.1
      rw [hnv, hp, ← List.length_map (f := fun p : PF => p.2), hr1.abs, HDF.out]
      exact this
    obtain ⟨q, rfl, _, _, _, hcj⟩ := hcells (by omega)
    obtain ⟨nj, Aj, lj, cj, _, z1, _, _, hrd, _⟩ := hcj p hpn
    have hlj := hrd.len
    rw [HDF.out] at hlj
    have HSZ : Kp (σ.size nm = (0, σ.down.2, lj)) := ⟨by rw [HE.out, ← HFR.out, if_pos rfl, ← hp, hlj]⟩
    have hpn' : ¬ nv ≤ p := by omega
    have d1 := cells_top hr1.top 1 (.slice (some ⟨q, 0, none⟩) nv cv) rfl
    rw [← hp]
    have HP := Kp.mk hp
    clear hf1 hr1 hcells hcj hrd hlj hh hi hp HF
    go_wp2_with fail
    go_ret2
    rw [HSZ.out]
    exact ⟨rfl, postR_of HF1.out HR1.out⟩
  · have h1 : (fr == 0) = false := by simpa using h0
    have h2 : (fr != 0) = true := by simpa using h0
    have HSZ : Kp (σ.size nm = (fr, σ.down.2, 0)) := ⟨by rw [HE.out, ← HFR.out, if_neg h0]⟩
    clear hi hf1 hr1 h0 HF
    go_wp2_with fail
    go_ret2
    rw [HSZ.out]
    exact ⟨rfl, postR_of HF1.out HR1.out⟩
theorem read_eq {σ : DS} (nm : ByteArray) (at_ n : Int) (hs : Srt σ.files) : σ.read nm at_ n = if foundR σ nm = 0 then (if at_ < 0 ∨ n < 0 ∨ (((σ.files.getD (posA nm.data.toList σ.files) afD).2.1.length : Nat) : Int) < at_ then (1, σ.down.2, []) else (0, σ.down.2, (((σ.files.getD (posA nm.data.toList σ.files) afD).2.1.drop at_.toNat).take n.toNat))) else (foundR σ nm, σ.down.2, []) := by
  obtain ⟨h1, h2⟩ := begin_found nm hs
  unfold DS.read
  rcases h2 with ⟨a, b, d⟩ | ⟨a, b, d⟩ | ⟨a, b⟩
  · simp only [b, h1, d, a, if_true]
  · simp only [b, h1, d, a, if_true]
    rw [if_neg (by omega)]
  · rw [if_neg (by rw [b]; exact a), if_neg a, b, h1]
set_option maxHeartbeats 1000000 in
theorem r_failed {w : World} {B g : Nat} {σ : DS} {S : Nat → Prop} (h : IsR w B g σ S) : Calls Try.prog 45 #[.pointer (some ⟨g, 0, none⟩)] w fun e w' => e = .returned (.int .i64 σ.failed) ∧ w' = w := by
  obtain ⟨room, v, A, c, ps, hr⟩ := h
  have c3 := cells_top hr.top 3 (.int .i64 σ.failed) rfl
  clear hr
  go_enter Try.func45, Try.ntmps45
  go_wp2
  go_ret
  exact ⟨rfl, rfl⟩
end Go.Proofs.Ytgeklapphkgdkaa.Dsk
