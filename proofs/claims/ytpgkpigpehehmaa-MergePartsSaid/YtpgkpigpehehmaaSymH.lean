import Derived.Test.YtpgkpigpehehmaaSymG
set_option linter.unusedVariables false
set_option linter.unusedSimpArgs false
namespace Go.Proofs.Ytpgkpigpehehmaa.Bas
open Go.RowKit Go.Maps Go.Sort Go.Shelf Go.Lib

/-- symMerge: two sorted stretches, merged, equals of the left ahead. -/
theorem sym_merge {α : Type} [Inhabited α] {enc : α → List Value} {k : Nat} (hk : k = 4) {cf : α → α → Int} {blk off cap N : Nat} {d0 : Array α} {w0 : World}
    (R : RowK enc k w0 blk off d0) (hC : CmpLays Try.prog 19 #[] enc k cf blk off d0.size w0) (hN : d0.size = N) (hsz : N ≤ 1000000) (hT : NT (ltOf cf)) :
    ∀ D, SymIH Try.prog enc k cf w0 blk off cap N 19 D
  | 0 => fun W dk x y z h => absurd h (Nat.not_lt_zero _)
  | D + 1 => fun W dk x y z h h1 h2 h3 h4 h5 h6 h7 => by
    have ih := sym_merge hk (cap := cap) R hC hN hsz hT D
    subst h4
    by_cases ha : y = x + 1
    · subst ha
      exact sym_a hk x z R hC hN h5 h2 h3 hsz hT h7
    · by_cases hb : z = y + 1
      · subst hb
        exact sym_b hk x y R hC hN h5 (by omega) h3 hsz hT h6
      · exact sym_c hk x y z R hC hN h5 (by omega) (by omega) h3 hsz hT h6 h7 (fun W dk x' y' z' g1 => ih W dk x' y' z' (by omega))
end Go.Proofs.Ytpgkpigpehehmaa.Bas
