import Derived.Test.YtgfkpddmjcgceaaVrN
set_option linter.unusedVariables false
set_option linter.unusedSimpArgs false
namespace Go.Proofs.Ytgfkpddmjcgceaa.Kx
open Go.RowKit Go.Maps Go.Proofs.YtgfkpddmjcgceaaW.PrintWords

instance (xs : List Int) : Decidable (OnceP xs) := inferInstanceAs (Decidable (∀ i, i < xs.length → xs.getD i 0 ∉ xs.take i))
instance (n : Nat) (nx lg sq : Int) : Decidable (vHead n nx lg sq) := inferInstanceAs (Decidable (_ ∧ _))
instance (n m : Nat) (nx lg sq : Int) : Decidable (eHead n m nx lg sq) := inferInstanceAs (Decidable (_ ∧ _))
instance (rs : List Rn) (nx sq : Int) (i : Nat) : Decidable (rowOk rs nx sq i) := inferInstanceAs (Decidable (_ ∧ _))
instance (rs : List Rn) (nx lg sq : Int) : Decidable (VOk rs nx lg sq) := inferInstanceAs (Decidable (_ ∧ _ ∧ ∀ i, i < rs.length → rowOk rs nx sq i))
instance (add : List Rn) (drop : List Int) (nx lg sq : Int) : Decidable (EOk add drop nx lg sq) := inferInstanceAs (Decidable (_ ∧ _ ∧ (∀ i, i < add.length → rnOk (add.getD i zRn)) ∧ _ ∧ ∀ i, i < drop.length → 1 ≤ drop.getD i 0 ∧ drop.getD i 0 ≤ 1099511627776))
instance (rs : List Rn) (f : Int) : Decidable (inF rs f) := inferInstanceAs (Decidable (∃ j, j < rs.length ∧ (rs.getD j zRn).file = f))
instance (rs : List Rn) (drop : List Int) : Decidable (allIn rs drop) := inferInstanceAs (Decidable (∀ i, i < drop.length → inF rs (drop.getD i 0)))
instance (rs add : List Rn) (drop : List Int) : Decidable (twice rs add drop) := inferInstanceAs (Decidable (∃ i, i < add.length ∧ inF rs (add.getD i zRn).file ∧ (add.getD i zRn).file ∉ drop))
instance (rs : List Rn) (drop : List Int) (a : Nat) : Decidable (IsAt rs drop a) := inferInstanceAs (Decidable ((a = 0 ∧ ∀ j, j < rs.length → (rs.getD j zRn).file ∉ drop) ∨ (a < rs.length ∧ (rs.getD a zRn).file ∈ drop ∧ ∀ i, i < a → (rs.getD i zRn).file ∉ drop)))
/-- The same test with its bounds as Lean decides them. -/
def rowAtD (rs : List Rn) (drop : List Int) (a : Nat) : Prop := a + drop.length ≤ rs.length ∧ ∀ i, i < drop.length → (rs.getD (a + i) zRn).file ∈ drop
instance (rs : List Rn) (drop : List Int) (a : Nat) : Decidable (rowAtD rs drop a) := inferInstanceAs (Decidable (_ ∧ ∀ i, i < drop.length → (rs.getD (a + i) zRn).file ∈ drop))
theorem rowAtD_iff (rs : List Rn) (drop : List Int) (a : Nat) : rowAtD rs drop a ↔ RowAt rs drop a :=
  ⟨fun h => ⟨h.1, fun i h1 h2 => by have := h.2 (i - a) (by omega); rwa [show a + (i - a) = i by omega] at this⟩, fun h => ⟨h.1, fun i hi => h.2 (a + i) (by omega) (by omega)⟩⟩
instance (rs : List Rn) (drop : List Int) (a : Nat) : Decidable (RowAt rs drop a) := decidable_of_iff _ (rowAtD_iff rs drop a)
instance (rs : List Rn) (nx lg sq : Int) (add : List Rn) (drop : List Int) (enx elg esq : Int) (a : Nat) : Decidable (GoodAt rs nx lg sq add drop enx elg esq a) := inferInstanceAs (Decidable (_ ∧ _ ∧ _ ∧ VOk (outL rs add drop a) (laterI nx enx) (laterI lg elg) (outS sq esq)))
theorem isAt_one {rs : List Rn} {drop : List Int} {a b : Nat} (ha : IsAt rs drop a) (hb : IsAt rs drop b) : a = b := by
  rcases ha with ⟨rfl, h1⟩ | ⟨h1, h2, h3⟩ <;> rcases hb with ⟨rfl, g1⟩ | ⟨g1, g2, g3⟩
  · rfl
  · exact absurd g2 (h1 b g1)
  · exact absurd h2 (g1 a h1)
  · rcases Nat.lt_trichotomy a b with h | h | h
    · exact absurd h2 (g3 a h)
    · exact h
    · exact absurd g2 (h3 b h)
/-- The error, reckoned. -/
def applyX (rs : List Rn) (nx lg sq : Int) (add : List Rn) (drop : List Int) (enx elg esq : Int) (a : Nat) : Int :=
  if VOk rs nx lg sq ∧ EOk add drop enx elg esq then
    if allIn rs drop then
      if twice rs add drop then 9
      else if 1000 < (rs.length : Int) - drop.length + add.length then 3
      else if RowAt rs drop a then
        if GoodAt rs nx lg sq add drop enx elg esq a then 0 else 10
      else 10
    else 8
  else 1
theorem apply_x {rs : List Rn} {nx lg sq : Int} {add : List Rn} {drop : List Int} {enx elg esq x : Int} {l : List Rn} {a b c : Int} (h : ApplyR rs nx lg sq add drop enx elg esq x l a b c) {a0 : Nat} (h0 : IsAt rs drop a0) :
    x = applyX rs nx lg sq add drop enx elg esq a0 := by
  unfold applyX
  rcases h with ⟨rfl, h1, _⟩ | ⟨h1, h⟩
  · rw [if_neg h1]
  rw [if_pos h1]
  rcases h with ⟨rfl, h2, _⟩ | ⟨h2, h⟩
  · rw [if_neg h2]
  rw [if_pos h2]
  rcases h with ⟨rfl, h3, _⟩ | ⟨h3, h⟩
  · rw [if_pos h3]
  rw [if_neg h3]
  rcases h with ⟨rfl, h4, _⟩ | ⟨h4, at', hat, h⟩
  · rw [if_pos h4]
  rw [if_neg (by omega)]
  have := isAt_one hat h0
  subst this
  rcases h with ⟨rfl, h5, _⟩ | ⟨h5, h⟩
  · rw [if_neg h5]
  rw [if_pos h5]
  rcases h with ⟨rfl, h6, _⟩ | ⟨rfl, h6, _⟩
  · rw [if_neg h6]
  · rw [if_pos h6]
def mkRn (f s : Int) : Rn := ⟨f, 10, 1, [97], [98], s⟩
def vErr : List Rn := [mkRn 3 3, mkRn 2 2, mkRn 1 1]
theorem err0 : applyX vErr 4 9 3 [] [7] 0 0 0 0 = 8 := by decide
theorem err1 : applyX vErr 4 9 3 [mkRn 2 9] [] 0 0 0 0 = 9 := by decide
theorem err2 : applyX vErr 4 9 3 [] [3, 1] 0 0 0 0 = 10 := by decide
theorem err8 : applyX vErr 4 9 3 [mkRn 4 4] [] 5 0 4 0 = 0 := by decide
theorem at2 : IsAt vErr [3, 1] 0 := by decide
end Go.Proofs.Ytgfkpddmjcgceaa.Kx
