import Derived.Test.YtgfkpddmjcgceaaLvA
import Derived.Test.YtgfkpddmjcgceaaVrD
import Derived.Test.YtgfkpddmjcgceaaKaE
set_option linter.unusedVariables false
set_option linter.unusedSimpArgs false
namespace Go.Proofs.Ytgfkpddmjcgceaa.Kx
open Go.RowKit Go.Maps Go.Sort Go.Proofs.YtgfkpddmjcgceaaW.PrintWords

theorem encs_map (xs : List Int) : encs (Value.int .i64) xs = xs.map (Value.int .i64) := rfl
theorem putCells_size {α : Type} [Inhabited α] (enc : α → Value) (off : Nat) (d : Array α) (c : Array Value) : (putCells enc off d c).size = c.size := by simp [putCells]
theorem putCells_take (ys : List Int) (c : Array Value) (m : Nat) (hm : m ≤ ys.length) (hc : ys.length ≤ c.size) : (putCells (Value.int .i64) 0 ys.toArray c).toList.take m = (ys.take m).map (Value.int .i64) := by
  apply List.ext_getElem?
  intro k
  rw [List.getElem?_take, List.getElem?_map, List.getElem?_take]
  by_cases hk : k < m
  · rw [if_pos hk, if_pos hk, Array.getElem?_toList]
    unfold putCells
    rw [Array.getElem?_mapIdx, Array.getElem?_eq_getElem (show k < c.size by omega), List.getElem?_eq_getElem (show k < ys.length by omega)]
    simp only [Option.map_some]
    rw [if_pos ⟨Nat.zero_le _, by simp; omega⟩]
    simp [show k < ys.length by omega]
  · rw [if_neg hk, if_neg hk]; rfl
/-- A row of ints of the call's own, written anew from its head; blocks behind it. -/
theorem own_put {w : World} {base g e n cap : Nat} {xs ys : List Int} (h : w.ownsRow base e 1 (.slice (some ⟨g, 0, none⟩) n cap) n (encs (Value.int .i64) xs)) (hl : ys.length = n) (m : Nat) (hm : m ≤ n) (q : Nat) (os : Array Obj) :
    (grow (putRow (Value.int .i64) (Go.Sort.ahead w q) g 0 ys.toArray) os).ownsRow base e 1 (.slice (some ⟨g, 0, none⟩) m cap) m (encs (Value.int .i64) (ys.take m)) ∧
    Fr w (grow (putRow (Value.int .i64) (Go.Sort.ahead w q) g 0 ys.toArray) os) (fun k => k = g) := by
  obtain ⟨h1, h2⟩ := h
  rcases h2 with ⟨h2, _⟩ | ⟨g', cap', cur, he, hb, hh, hn, hcap, hs, ht⟩
  · cases h2
  cases he
  have hlt : g < w.heap.size := (Array.getElem?_eq_some_iff.1 hh).1
  have hg : (putRow (Value.int .i64) (Go.Sort.ahead w q) g 0 ys.toArray).heap[g]? = some (.cells (putCells (Value.int .i64) 0 ys.toArray cur) e (0, 0)) := by
    unfold putRow mapBlock
    show (w.heap.modify g _)[g]? = _
    rw [Array.getElem?_modify, if_pos rfl, hh]
    rfl
  refine ⟨⟨by simp [encs, List.length_take]; omega, .inr ⟨g, cap, putCells (Value.int .i64) 0 ys.toArray cur, rfl, hb, ?_, by omega, hcap, ?_, ?_⟩⟩, ⟨rfl, rfl, rfl, by simp, fun k hk hne => ?_⟩⟩
  · rw [heap_grow_old _ _ (by simpa using hlt)]; exact hg
  · rw [putCells_size]; exact hs
  · rw [Nat.mul_one, putCells_take ys cur m (by omega) (by omega)]; rfl
  · rw [heap_grow_old _ _ (by simpa using hk)]
    unfold putRow mapBlock
    show (w.heap.modify g _)[k]? = _
    rw [Array.getElem?_modify, if_neg (Ne.symm hne)]
theorem own_holds {w : World} {base g e n cap : Nat} {xs : List Int} (h : w.ownsRow base e 1 (.slice (some ⟨g, 0, none⟩) n cap) n (encs (Value.int .i64) xs)) : Holds (Value.int .i64) w g 0 xs.toArray ∧ g < w.heap.size ∧ n ≤ cap ∧ base ≤ g ∧ xs.length = n := by
  obtain ⟨h1, h2⟩ := h
  rcases h2 with ⟨h2, _⟩ | ⟨g', cap', cur, he, hb, hh, hn, hcap, hs, ht⟩
  · cases h2
  cases he
  have hxl : xs.length = n := by simpa [encs] using h1
  refine ⟨fun j hj => ?_, (Array.getElem?_eq_some_iff.1 hh).1, hn, hb, hxl⟩
  have hj' : j < xs.length := by simpa using hj
  refine ⟨?_, by rw [Nat.zero_add]; exact free_top hh j⟩
  rw [Nat.zero_add]
  refine cells_top hh j _ ?_
  have : (cur.toList.take (n * 1))[j]? = (encs (Value.int .i64) xs)[j]? := by rw [ht]
  rw [List.getElem?_take, if_pos (by omega), Array.getElem?_toList] at this
  rw [this]
  simp [encs, hj']
theorem R_at {w : World} {base e : Nat} {ok : Nat → Prop} {v : Value} {xs : List Int} (h : (Kd.int .i64).R e w base ok v xs) : (v = .slice none 0 0 ∧ xs = []) ∨ ∃ g cap, v = .slice (some ⟨g, 0, none⟩) xs.length cap ∧ w.ownsRow base e 1 (.slice (some ⟨g, 0, none⟩) xs.length cap) xs.length (encs (Value.int .i64) xs) := by
  have ho := Kd.own_of_R h
  rcases ho.2 with ⟨rfl, h0⟩ | ⟨g, cap, cur, rfl, _⟩
  · exact .inl ⟨rfl, List.eq_nil_of_length_eq_zero h0⟩
  · exact .inr ⟨g, cap, rfl, ho⟩
theorem below_through {w0 w w' : World} {base g : Nat} (hb : Below base w0 w) (hf : Fr w w' (fun k => k = g)) (hg : base ≤ g) (hbase : base ≤ w.heap.size) : Below base w0 w' :=
  hb.trans (hf.toBelow (fun k hk => by omega) hbase)
theorem compact_len (zs : List Int) : (Lib.compact zs).length ≤ zs.length := by
  unfold Lib.compact Lib.compactUpTo
  rw [List.length_map]
  exact Nat.le_trans (List.length_filter_le _ _) (by simp)
end Go.Proofs.Ytgfkpddmjcgceaa.Kx
