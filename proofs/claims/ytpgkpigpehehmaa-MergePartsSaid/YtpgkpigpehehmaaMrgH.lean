import Derived.Test.YtpgkpigpehehmaaMrgG
set_option linter.unusedVariables false
set_option linter.unusedSimpArgs false
namespace Go.Proofs.Ytpgkpigpehehmaa.Bas
open Go.RowKit Go.Maps Go.Sort Go.Shelf

/-- Elements of the sort out of a row. -/
def cell4 {w0 : World} (p : Pr) (h : EnC w0 p.1 p.2) : Cell4 w0 := Subtype.mk p h
theorem cell4_val {w0 : World} (p : Pr) (h : EnC w0 p.1 p.2) : (cell4 p h).1 = p := rfl
def cellsOf4 {w0 : World} (ps : List Pr) (h : ∀ p ∈ ps, EnC w0 p.1 p.2) : Array (Cell4 w0) := (ps.pmap cell4 h).toArray
theorem cellsOf4_size {w0 : World} (ps : List Pr) (h : ∀ p ∈ ps, EnC w0 p.1 p.2) : (cellsOf4 ps h).size = ps.length := by
  unfold cellsOf4
  rw [List.size_toArray, List.length_pmap]
theorem cellsOf4_val {w0 : World} (ps : List Pr) (h : ∀ p ∈ ps, EnC w0 p.1 p.2) : (cellsOf4 ps h).toList.map (fun x : Cell4 w0 => x.1) = ps := by
  unfold cellsOf4
  rw [List.toList_toArray, List.map_pmap]
  simp only [cell4_val]
  exact (List.pmap_eq_map ..).trans (List.map_id _)
theorem flat4_get {w0 : World} : ∀ (ps : List Pr), (∀ p ∈ ps, EnC w0 p.1 p.2) → ∀ j, j < ps.length * 4 → (flat4 ps)[j]? = ((ps.getD (j / 4) (#[], enD)).1.toList)[j % 4]?
  | [], _, j, hj => by simp at hj
  | p :: r, h, j, hj => by
    have h4 := enC_size (h p (List.mem_cons_self ..))
    have hl : p.1.toList.length = 4 := by rw [Array.length_toList]; exact h4
    have ih := flat4_get r (fun q hq => h q (List.mem_cons_of_mem _ hq))
    unfold flat4 at ih ⊢
    rw [List.map_cons, List.flatten_cons]
    by_cases hj4 : j < 4
    · rw [List.getElem?_append_left (by omega), Nat.div_eq_of_lt hj4, Nat.mod_eq_of_lt hj4]
      rfl
    · have hj' : j - 4 < r.length * 4 := by rw [List.length_cons] at hj; omega
      rw [List.getElem?_append_right (by omega), hl, ih (j - 4) hj']
      have e1 : j / 4 = (j - 4) / 4 + 1 := by omega
      have e2 : j % 4 = (j - 4) % 4 := by omega
      rw [e1, e2]
      rfl
theorem cellsOf4_getD {w0 : World} (ps : List Pr) (h : ∀ p ∈ ps, EnC w0 p.1 p.2) (i : Nat) (hi : i < ps.length) : ((cellsOf4 ps h)[i]!).1 = ps.getD i (#[], enD) := by
  have hs := cellsOf4_size ps h
  have hv := cellsOf4_val ps h
  rw [getElem!_pos (cellsOf4 ps h) i (by omega)]
  have e : ((cellsOf4 ps h).toList.map (fun x : Cell4 w0 => x.1))[i]? = ps[i]? := by rw [hv]
  rw [List.getElem?_map, Array.getElem?_toList, Array.getElem?_eq_getElem (by omega), List.getElem?_eq_getElem hi] at e
  simp only [Option.map_some, Option.some.injEq] at e
  rw [e]
  simp [List.getD, hi]
theorem holds4 {w0 w : World} {g : Nat} {cs : Array Value} {t : TypeId} (ps : List Pr) (h : ∀ p ∈ ps, EnC w0 p.1 p.2) (hh : w.heap[g]? = some (.cells cs t (0, 0))) (hc : ∀ (j : Nat) (u : Value), (flat4 ps)[j]? = some u → cs[j]? = some u) : HoldsK (encC (w0 := w0)) 4 w g 0 (cellsOf4 ps h) := by
  intro j hj
  rw [size_flatK, cellsOf4_size] at hj
  refine ⟨?_, by rw [Nat.zero_add]; exact free_top hh j⟩
  rw [get_flatK _ _ _ _ (by rw [cellsOf4_size]; exact hj), Nat.zero_add]
  have hi : j / 4 < ps.length := by omega
  have hg := flat4_get ps h j hj
  have hen : encC (cellsOf4 ps h)[j / 4]! = (ps.getD (j / 4) (#[], enD)).1.toList := by unfold encC; rw [cellsOf4_getD ps h _ hi]
  have hlen := encC_len (cellsOf4 ps h)[j / 4]!
  rw [← hen] at hg
  replace hg := hg.trans (List.getElem?_eq_getElem (show j % 4 < (encC (cellsOf4 ps h)[j / 4]!).length by rw [hlen]; omega))
  have := cells_top hh j _ (hc j _ hg)
  rw [this]
  have e9 := getElem!_pos (encC (cellsOf4 ps h)[j / 4]!) (j % 4) (show j % 4 < (encC (cellsOf4 ps h)[j / 4]!).length by rw [hlen]; omega)
  exact congrArg some e9.symm
end Go.Proofs.Ytpgkpigpehehmaa.Bas
