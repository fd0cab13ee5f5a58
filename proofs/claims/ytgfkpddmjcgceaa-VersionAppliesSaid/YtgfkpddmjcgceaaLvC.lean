import Derived.Test.YtgfkpddmjcgceaaLvB
import Derived.Test.YtgfkpddmjcgceaaShelf
import Derived.Test.YtgfkpddmjcgceaaVrK
set_option linter.unusedVariables false
set_option linter.unusedSimpArgs false
namespace Go.Proofs.Ytgfkpddmjcgceaa.Kx
open Go.RowKit Go.Maps Go.Sort Go.Proofs.YtgfkpddmjcgceaaW.PrintWords

/-- What a sort leaves: the same row, written anew. -/
def TurnedI (v1 : Value) (ys : List Int) (base : Nat) (w0 : World) (v : Value) (w : World) (e : Ending) (w' : World) : Prop :=
  e = .returned v ∧ (Kd.int .i64).R 3 w' base (fun _ => True) v1 ys ∧ Below base w0 w'
theorem sort_own {w w0 : World} {base : Nat} {v : Value} {xs : List Int} (h : (Kd.int .i64).R 3 w base (fun _ => True) v xs) (hb : Below base w0 w) (hl : xs.length ≤ 1000000) (hbase : base ≤ w.heap.size) :
    Calls Try.prog 37 #[v] w (TurnedI v (xs.mergeSort fun x y => decide (x ≤ y)) base w0 (.tuple #[]) w) := by
  rcases R_at h with ⟨rfl, rfl⟩ | ⟨g, cap, rfl, ho⟩
  · exact (Try.slices_Sort_int_none none 0 w).mono (fun e w' hq => by
      obtain ⟨rfl, rfl⟩ := hq
      exact ⟨rfl, by simpa using h, hb⟩)
  · obtain ⟨hH, hlt, hn, hg, hxl⟩ := own_holds ho
    exact (Try.slices_Sort_int g 0 cap xs w hH hlt (by omega)).mono (fun e w' hq => by
      obtain ⟨rfl, q, os, rfl⟩ := hq
      have hlen : (xs.mergeSort fun x y => decide (x ≤ y)).length = xs.length := List.length_mergeSort _
      obtain ⟨h1, h2⟩ := own_put ho hlen xs.length (Nat.le_refl _) q os
      rw [List.take_of_length_le (by omega)] at h1
      refine ⟨rfl, Kd.R_of_own (by rw [hlen]; exact h1) (fun _ _ => trivial), ?_⟩
      exact below_through hb h2 hg hbase)
theorem compact_own {w w0 : World} {base : Nat} {v : Value} {xs : List Int} (h : (Kd.int .i64).R 3 w base (fun _ => True) v xs) (hb : Below base w0 w) (hl : xs.length ≤ 1000000) (hbase : base ≤ w.heap.size) :
    Calls Try.prog 38 #[v] w (fun e w' => ∃ v1, TurnedI v1 (Lib.compact xs) base w0 v1 w e w') := by
  rcases R_at h with ⟨rfl, rfl⟩ | ⟨g, cap, rfl, ho⟩
  · exact (Try.slices_Compact_int_empty none 0 w).mono (fun e w' hq => by
      obtain ⟨rfl, rfl⟩ := hq
      exact ⟨_, rfl, h, hb⟩)
  · obtain ⟨hH, hlt, hn, hg, hxl⟩ := own_holds ho
    exact (Try.slices_Compact_int g 0 cap xs w hH (by omega) hn).mono (fun e w' hq => by
      obtain ⟨rfl, q, rfl⟩ := hq
      have hle : (Lib.compact xs).length ≤ xs.length := compact_len xs
      have hlen : (Lib.compact xs ++ List.replicate (xs.length - (Lib.compact xs).length) 0).length = xs.length := by simp; omega
      obtain ⟨h1, h2⟩ := own_put ho hlen (Lib.compact xs).length hle q #[]
      rw [List.take_left' rfl, grow_empty] at h1
      rw [grow_empty] at h2
      exact ⟨_, rfl, Kd.R_of_own h1 (fun _ _ => trivial), below_through hb h2 hg hbase⟩)
end Go.Proofs.Ytgfkpddmjcgceaa.Kx
