import Derived.Test.YtgfkpddmjcgceaaApB
import Derived.Test.YtgfkpddmjcgceaaVrN
import Derived.Deep.RegionHeld3
set_option linter.unusedVariables false
set_option linter.unusedSimpArgs false
namespace Go.Proofs.Ytgfkpddmjcgceaa.Kx
open Go.RowKit Go.Maps Go.Proofs.YtgfkpddmjcgceaaW.PrintWords

/-- join's variables: the version, the edit, the result, what comes out. -/
structure Jn (w W : World) (V E : Array Value) (v o1 o2 o3 : Value) (l : List Rn) : Prop where
  z4 : W.heap[w.heap.size]? = some (.cells V 27 (0, 0))
  z5 : W.heap[w.heap.size + 1]? = some (.cells E 31 (0, 0))
  z8 : W.heap[w.heap.size + 1 + 1]? = some (.cells #[.slice none 0 0, .int .i64 0, .int .i64 0, .int .u64 0] 27 (0, 0))
  z9 : W.heap[w.heap.size + 1 + 1 + 1]? = some (.cells #[v, o1, o2, o3] 27 (0, 0))
  r : kRn.R 42 W w.heap.size (fun _ => True) v l
  b : Below w.heap.size w W
section
variable {w W W1 : World} {V E : Array Value} {v o1 o2 o3 : Value} {l : List Rn}
theorem Jn.below (h : Jn w W V E v o1 o2 o3 l) (hb : Below W.heap.size W W1) : Jn w W1 V E v o1 o2 o3 l :=
  ⟨(hb.block _ (lt_of_block h.z4)).trans h.z4, (hb.block _ (lt_of_block h.z5)).trans h.z5, (hb.block _ (lt_of_block h.z8)).trans h.z8, (hb.block _ (lt_of_block h.z9)).trans h.z9, Kd.R_below h.r hb, h.b.trans (hb.mono h.b.size)⟩
/-- The row of runs has grown. -/
theorem Jn.grown {v1 : Value} {l1 : List Rn} (h : Jn w W V E v o1 o2 o3 l) (hr : kRn.R 42 W1 w.heap.size (fun _ => True) v1 l1) (hb : Below w.heap.size w W1) (hg : W.grownBy W1 v.ownBlock) :
    Jn w (W1.setCell ⟨w.heap.size + 1 + 1 + 1, 0, none⟩ v1) V E v1 o1 o2 o3 l1 := by
  have y4 := (hg.block _ (lt_of_block h.z4) (Kd.R_ne h.r h.z4 (by decide))).trans h.z4
  have y5 := (hg.block _ (lt_of_block h.z5) (Kd.R_ne h.r h.z5 (by decide))).trans h.z5
  have y8 := (hg.block _ (lt_of_block h.z8) (Kd.R_ne h.r h.z8 (by decide))).trans h.z8
  have y9 := (hg.block _ (lt_of_block h.z9) (Kd.R_ne h.r h.z9 (by decide))).trans h.z9
  exact ⟨(Below.heap_setCell W1 ⟨w.heap.size + 1 + 1 + 1, 0, none⟩ v1 _ (by show _ ≠ w.heap.size + 1 + 1 + 1; omega)).trans y4, (Below.heap_setCell W1 ⟨w.heap.size + 1 + 1 + 1, 0, none⟩ v1 _ (by show _ ≠ w.heap.size + 1 + 1 + 1; omega)).trans y5, (Below.heap_setCell W1 ⟨w.heap.size + 1 + 1 + 1, 0, none⟩ v1 _ (by show _ ≠ w.heap.size + 1 + 1 + 1; omega)).trans y8, heap_setCell_same _ _ 0 _ _ v1 y9, Kd.R_set hr y9 (by decide) 0 v1, hb.setCell (by show w.heap.size ≤ w.heap.size + 1 + 1 + 1; omega) _⟩
theorem Jn.cells9 (h : Jn w W V E v o1 o2 o3 l) (hg : W.grownBy W1 v.ownBlock) : W1.heap[w.heap.size + 1 + 1 + 1]? = some (.cells #[v, o1, o2, o3] 27 (0, 0)) :=
  (hg.block _ (lt_of_block h.z9) (Kd.R_ne h.r h.z9 (by decide))).trans h.z9
theorem Jn.set1 (h : Jn w W V E v o1 o2 o3 l) (u : Value) : Jn w (W.setCell ⟨w.heap.size + 1 + 1 + 1, 1, none⟩ u) V E v u o2 o3 l :=
  ⟨(Below.heap_setCell W ⟨w.heap.size + 1 + 1 + 1, 1, none⟩ u _ (by show _ ≠ w.heap.size + 1 + 1 + 1; omega)).trans h.z4, (Below.heap_setCell W ⟨w.heap.size + 1 + 1 + 1, 1, none⟩ u _ (by show _ ≠ w.heap.size + 1 + 1 + 1; omega)).trans h.z5, (Below.heap_setCell W ⟨w.heap.size + 1 + 1 + 1, 1, none⟩ u _ (by show _ ≠ w.heap.size + 1 + 1 + 1; omega)).trans h.z8, heap_setCell_same _ _ 1 _ _ u h.z9, Kd.R_set h.r h.z9 (by decide) 1 u, h.b.setCell (by show w.heap.size ≤ w.heap.size + 1 + 1 + 1; omega) _⟩
theorem Jn.set2 (h : Jn w W V E v o1 o2 o3 l) (u : Value) : Jn w (W.setCell ⟨w.heap.size + 1 + 1 + 1, 2, none⟩ u) V E v o1 u o3 l :=
  ⟨(Below.heap_setCell W ⟨w.heap.size + 1 + 1 + 1, 2, none⟩ u _ (by show _ ≠ w.heap.size + 1 + 1 + 1; omega)).trans h.z4, (Below.heap_setCell W ⟨w.heap.size + 1 + 1 + 1, 2, none⟩ u _ (by show _ ≠ w.heap.size + 1 + 1 + 1; omega)).trans h.z5, (Below.heap_setCell W ⟨w.heap.size + 1 + 1 + 1, 2, none⟩ u _ (by show _ ≠ w.heap.size + 1 + 1 + 1; omega)).trans h.z8, heap_setCell_same _ _ 2 _ _ u h.z9, Kd.R_set h.r h.z9 (by decide) 2 u, h.b.setCell (by show w.heap.size ≤ w.heap.size + 1 + 1 + 1; omega) _⟩
theorem Jn.set3 (h : Jn w W V E v o1 o2 o3 l) (u : Value) : Jn w (W.setCell ⟨w.heap.size + 1 + 1 + 1, 3, none⟩ u) V E v o1 o2 u l :=
  ⟨(Below.heap_setCell W ⟨w.heap.size + 1 + 1 + 1, 3, none⟩ u _ (by show _ ≠ w.heap.size + 1 + 1 + 1; omega)).trans h.z4, (Below.heap_setCell W ⟨w.heap.size + 1 + 1 + 1, 3, none⟩ u _ (by show _ ≠ w.heap.size + 1 + 1 + 1; omega)).trans h.z5, (Below.heap_setCell W ⟨w.heap.size + 1 + 1 + 1, 3, none⟩ u _ (by show _ ≠ w.heap.size + 1 + 1 + 1; omega)).trans h.z8, heap_setCell_same _ _ 3 _ _ u h.z9, Kd.R_set h.r h.z9 (by decide) 3 u, h.b.setCell (by show w.heap.size ≤ w.heap.size + 1 + 1 + 1; omega) _⟩
/-- The result is laid. -/
theorem Jn.ret (h : Jn w W V E v o1 o2 o3 l) :
    ((((W.setCell ⟨w.heap.size + 1 + 1, 0, none⟩ v).setCell ⟨w.heap.size + 1 + 1, 1, none⟩ o1).setCell ⟨w.heap.size + 1 + 1, 2, none⟩ o2).setCell ⟨w.heap.size + 1 + 1, 3, none⟩ o3).heap[w.heap.size + 1 + 1]? = some (.cells #[v, o1, o2, o3] 27 (0, 0)) ∧
    kRn.R 42 ((((W.setCell ⟨w.heap.size + 1 + 1, 0, none⟩ v).setCell ⟨w.heap.size + 1 + 1, 1, none⟩ o1).setCell ⟨w.heap.size + 1 + 1, 2, none⟩ o2).setCell ⟨w.heap.size + 1 + 1, 3, none⟩ o3) w.heap.size (fun _ => True) v l ∧
    Below w.heap.size w ((((W.setCell ⟨w.heap.size + 1 + 1, 0, none⟩ v).setCell ⟨w.heap.size + 1 + 1, 1, none⟩ o1).setCell ⟨w.heap.size + 1 + 1, 2, none⟩ o2).setCell ⟨w.heap.size + 1 + 1, 3, none⟩ o3) :=
  ⟨laid4 h.z8 _ _ _ _, put_R h.r h.z8 _ _ _ _, (((h.b.setCell (by show w.heap.size ≤ w.heap.size + 1 + 1; omega) _).setCell (by show w.heap.size ≤ w.heap.size + 1 + 1; omega) _).setCell (by show w.heap.size ≤ w.heap.size + 1 + 1; omega) _).setCell (by show w.heap.size ≤ w.heap.size + 1 + 1; omega) _⟩
end
def JoinQ (l : List Rn) (a b c : Int) (w : World) (e : Ending) (w' : World) : Prop := ∃ v, e = .returned (.agg #[v, .int .i64 a, .int .i64 b, .int .u64 c]) ∧ kRn.R 42 w' w.heap.size (fun _ => True) v l ∧ Below w.heap.size w w'
end Go.Proofs.Ytgfkpddmjcgceaa.Kx
