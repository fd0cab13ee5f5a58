import Derived.Test.YtpgkpigpehehmaaMrgH
import Derived.Handy
set_option linter.unusedVariables false
set_option linter.unusedSimpArgs false
namespace Go.Proofs.Ytpgkpigpehehmaa.Bas
open Go.RowKit Go.Maps Go.Sort Go.Shelf

/-- A slice of lists of entries that is read. -/
structure Ls (w : World) (A : Option Addr) (n c : Nat) (ess : List (List En)) : Prop where
  len : ess.length = n
  max : n ≤ 1000000
  nil : A = none → n = 0 ∧ c = 0
  cell : 0 < n → ∃ ad, A = some ad ∧ ∀ i, i < n → ∃ A' c', w.cell? (ad.add i) = some (.slice A' (ess.getD i []).length c') ∧ Es w A' (ess.getD i []).length c' (ess.getD i [])
theorem Ls.below {w W : World} {A : Option Addr} {n c : Nat} {ess : List (List En)} (h : Ls w A n c ess) (hb : Below w.heap.size w W) : Ls W A n c ess :=
  ⟨h.len, h.max, h.nil, fun hn => by
    obtain ⟨ad, e, hc⟩ := h.cell hn
    refine ⟨ad, e, fun i hi => ?_⟩
    obtain ⟨A', c', h1, h2⟩ := hc i hi
    exact ⟨A', c', cell_kept hb h1, h2.below hb⟩⟩
end Go.Proofs.Ytpgkpigpehehmaa.Bas
