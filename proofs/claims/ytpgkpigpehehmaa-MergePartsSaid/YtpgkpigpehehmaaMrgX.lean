import Derived.Test.YtpgkpigpehehmaaMrgV
set_option linter.unusedVariables false
set_option linter.unusedSimpArgs false
namespace Go.Proofs.Ytpgkpigpehehmaa.Bas
open Go.RowKit Go.Maps Go.Sort Go.Shelf

/-- A row of the call's own, as it is read. -/
theorem Ow.es {B : Nat} {w : World} {A : Option Addr} {n c : Nat} {ps : List Pr} (h : Ow B w (.slice A n c) ps) (hn : ps.length ≤ 1000000) : n = ps.length ∧ Es w A n c (ps.map (·.2)) := by
  obtain ⟨A1, c1, e1⟩ := h.slice
  injection e1 with e2 e3 e4
  subst e2 e3 e4
  refine ⟨rfl, ⟨by simp, hn, fun e => ?_, fun hp => ?_⟩⟩
  · subst e
    rcases h.own.2 with ⟨e1, e2⟩ | ⟨q, cap, cur, e1, _⟩
    · injection e1 with _ e3 e4
      exact ⟨e2, e4⟩
    · injection e1 with e3
      cases e3
  · obtain ⟨g, c', e1, _, _⟩ := h.cells (k := 0) hp
    injection e1 with e2 e3 e4
    refine ⟨g, 0, e2, fun i hi => ?_⟩
    obtain ⟨g', c'', e1', _, hc⟩ := h.cells (k := i) hi
    injection e1' with e2' e3' e4'
    have hg : g' = g := by rw [e2] at e2'; injection e2' with e5; injection e5 with e6; exact e6.symm
    subst hg
    have hm : ps.getD i (#[], enD) ∈ ps := by simp [List.getD, hi]
    refine ⟨(ps.getD i (#[], enD)).1, ?_, fun j u hu => by rw [Nat.zero_add]; exact hc j u hu⟩
    have hv : (ps.map (·.2)).getD i enD = (ps.getD i (#[], enD)).2 := by
      simp [List.getD, List.getElem?_map, hi]
    rw [hv]
    exact h.en _ hm
end Go.Proofs.Ytpgkpigpehehmaa.Bas
