import Derived.Test.YtpgkpigpehehmaaMrgE
import Derived.Shelf.SlSortCmp.KitK
import Derived.Deep.LoopGhost
import Derived.Sort.Lot0
set_option linter.unusedVariables false
set_option linter.unusedSimpArgs false
namespace Go.Proofs.Ytpgkpigpehehmaa.Bas
open Go.RowKit Go.Maps Go.Sort Go.Shelf Go.Lib

/-! ### Rows as functions: two stretches exchanged, two neighbours turned round -/
section
variable {α : Type}
def swpF (f : Nat → α) (a b n : Nat) : Nat → α := fun k => if a ≤ k ∧ k < a + n then f (k + (b - a)) else if b ≤ k ∧ k < b + n then f (k - (b - a)) else f k
def rotF (f : Nat → α) (a m b : Nat) : Nat → α := fun k => if a ≤ k ∧ k < a + (b - m) then f (k + (m - a)) else if a + (b - m) ≤ k ∧ k < b then f (k - (b - m)) else f k
theorem rot_left (f : Nat → α) {i j m : Nat} (him : i ≤ m) (hj : 0 < j) (hij : j < i) : rotF (swpF f (m - i) m j) (m - (i - j)) m (m + j) = rotF f (m - i) m (m + j) := by
  funext k
  unfold rotF swpF
  repeat' split
  all_goals first | rfl | (congr 1; omega) | (exfalso; omega)
theorem rot_right (f : Nat → α) {i j m : Nat} (him : i ≤ m) (hi : 0 < i) (hij : i < j) : rotF (swpF f (m - i) (m + j - i) i) (m - i) m (m + (j - i)) = rotF f (m - i) m (m + j) := by
  funext k
  unfold rotF swpF
  repeat' split
  all_goals first | rfl | (congr 1; omega) | (exfalso; omega)
theorem rot_even (f : Nat → α) {i m : Nat} (him : i ≤ m) : swpF f (m - i) m i = rotF f (m - i) m (m + i) := by
  funext k
  unfold rotF swpF
  repeat' split
  all_goals first | rfl | (congr 1; omega) | (exfalso; omega)
theorem swpF_zero (f : Nat → α) (a b : Nat) : swpF f a b 0 = f := by
  funext k
  unfold swpF
  repeat' split
  all_goals first | rfl | (exfalso; omega)
def get [Inhabited α] (d : Array α) : Nat → α := fun k => d[k]!
theorem get_swp [Inhabited α] (d : Array α) {i j : Nat} (hi : i < d.size) (hj : j < d.size) (k : Nat) : get (swp d i j) k = if k = i then get d j else if k = j then get d i else get d k := by
  unfold get
  by_cases h1 : k = i
  · rw [if_pos h1, h1]
    by_cases hij : i = j
    · rw [hij]; exact (swp_right d j j hj)
    · exact swp_left d i j hi hij
  · rw [if_neg h1]
    by_cases h2 : k = j
    · rw [if_pos h2, h2]
      exact swp_right d i j hj
    · rw [if_neg h2]
      exact swp_other d i j k h1 h2
theorem swpF_succ [Inhabited α] {d dk : Array α} {a b i n : Nat} (hs : dk.size = d.size) (ha : a + n ≤ b) (hb : b + n ≤ d.size) (hi : i < n) (h : get dk = swpF (get d) a b i) : get (swp dk (a + i) (b + i)) = swpF (get d) a b (i + 1) := by
  funext k
  rw [get_swp dk (by omega) (by omega), h]
  unfold swpF
  repeat' split
  all_goals first | rfl | (congr 1; omega) | (exfalso; omega)
end
end Go.Proofs.Ytpgkpigpehehmaa.Bas
