import Derived.Test.YtgeklapphkgdkaaDsRp
import Derived.Test.YtgeklapphkgdkaaDskH
set_option linter.unusedVariables false
set_option linter.unusedSimpArgs false
namespace Go.Proofs.Ytgeklapphkgdkaa.Dsk
open Go.RowKit Go.Maps

/-! ### The reference's disk: Crash -/
def crA (keep : Int) (y : List UInt8 × List Int × Nat) : List UInt8 × List Int × Nat := (y.1, crash1 keep y.2)
def partC (keep : Int) (σ : DS) (j : Nat) : DS := { σ with files := (σ.files.take j).map (crA keep) ++ σ.files.drop j }
theorem partC_zero (keep : Int) (σ : DS) : partC keep σ 0 = σ := by simp [partC]
theorem partC_all (keep : Int) (σ : DS) : partC keep σ σ.files.length = σ.crash keep := by simp [partC, DS.crash, crA]
theorem partC_get (keep : Int) (σ : DS) (j : Nat) (hj : j < σ.files.length) : (partC keep σ j).files.getD j afD = σ.files.getD j afD := by
  simp [partC, List.getD, List.getElem?_append, Nat.min_eq_left (Nat.le_of_lt hj), hj]
theorem partC_len (keep : Int) (σ : DS) (j : Nat) (hj : j ≤ σ.files.length) : (partC keep σ j).files.length = σ.files.length := by
  simp [partC]; omega
theorem partC_set (keep : Int) (σ : DS) (j : Nat) (hj : j < σ.files.length) : (partC keep σ j).files.set j (crA keep (σ.files.getD j afD)) = (partC keep σ (j + 1)).files := by
  apply List.ext_getElem?
  intro k
  unfold partC
  simp only [List.getElem?_set, List.getElem?_append, List.length_map, List.length_take, List.getElem?_map, List.getElem?_take, List.getElem?_drop, List.length_append, List.length_drop]
  rcases Nat.lt_trichotomy k j with h | h | h
  · have h1 : ¬ j = k := by omega
    have h2 : k < min j σ.files.length := by omega
    have h3 : k < min (j + 1) σ.files.length := by omega
    have h4 : k < j + 1 := by omega
    simp [h1, h2, h3, h4, h]
  · subst h
    have h3 : k < min (k + 1) σ.files.length := by omega
    have h5 : k < min k σ.files.length + (σ.files.length - k) := by omega
    simp [h3, h5, List.getD, hj]
  · have h1 : ¬ j = k := by omega
    have h2 : ¬ k < min j σ.files.length := by omega
    have h3 : ¬ k < min (j + 1) σ.files.length := by omega
    simp [h1, h2, h3]
    congr 1
    omega
theorem RD.syn {W w5 : World} {B g : Nat} {σ : DS} {S : Nat → Prop} {room : Int} {q nv cv : Nat} {A : Option Addr} {c : Nat} {ps : List PF} (h : RD W B g σ S room (.slice (some ⟨q, 0, none⟩) nv cv) A c ps) {p : Nat} (hp : p < nv) (hB : Below W.heap.size W w5) {s : Nat} (hs : s ≤ (σ.files.getD p afD).2.1.length) :
    ∃ ps' : List PF, ps'.length = ps.length ∧ RD (w5.setCell ⟨q, p * 3 + 2, none⟩ (.int .i64 (s : Nat))) B g { σ with files := σ.files.set p ((σ.files.getD p afD).1, ((σ.files.getD p afD).2.1, s)) } S room (.slice (some ⟨q, 0, none⟩) nv cv) A c ps' := by
  obtain ⟨hpl, hmem, hgh⟩ := h.ghost hp
  obtain ⟨nj, Aj, lj, cj, ej, g1, hrd, g3, g4, g5, g6⟩ := (h.file _ hmem).out
  have hW := h.below hB
  refine ⟨_, ?_, hW.put hpl (show 2 < 3 by omega) (vs' := #[.string nj, .slice Aj lj cj, .int .i64 (s : Nat)]) (f' := ((σ.files.getD p afD).1, ((σ.files.getD p afD).2.1, s))) (by rw [ej]; rfl) rfl ?_ ?_⟩
  · rw [List.length_set]
  · refine ⟨nj, Aj, lj, cj, rfl, by rw [g1, hgh], ?_, g3, g4, ?_, g6⟩
    · rw [hgh] at hrd
      refine (hrd.below hB).kept ((Fr.refl w5 (fun k => k = q)).setCell (a := ⟨q, p * 3 + 2, none⟩) (.inl rfl) _) (fun ad e hn he => ?_)
      have := (h.far _ hmem ad lj cj (by rw [ej, e]; simp) hn).2.2
      exact this (by rw [he]; rfl)
    · rw [hgh] at hrd
      have := hrd.len
      show s ≤ lj
      omega
  · intro A' n' c' hm hn
    have := h.far _ hmem A' n' c' (by rw [ej]; simpa using hm) hn
    exact ⟨this.1, this.2.1, fun e => this.2.2 (by rw [e]; rfl)⟩
end Go.Proofs.Ytgeklapphkgdkaa.Dsk
