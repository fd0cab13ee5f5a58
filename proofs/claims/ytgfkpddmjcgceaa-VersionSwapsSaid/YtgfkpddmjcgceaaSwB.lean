import Derived.Test.YtgfkpddmjcgceaaSwA
import Derived.Test.YtgfkpddmjcgceaaLvD
set_option linter.unusedVariables false
set_option linter.unusedSimpArgs false
namespace Go.Proofs.Ytgfkpddmjcgceaa.Kx
open Go.RowKit Go.Maps Go.Proofs.YtgfkpddmjcgceaaW.PrintWords

def dropL (n a c : Nat) : List Int := (List.range c).map fun i => ((n - (a + i) : Nat) : Int)
theorem dropL_len (n a c : Nat) : (dropL n a c).length = c := by simp [dropL]
theorem dropL_get (n a c i : Nat) (h : i < c) : (dropL n a c).getD i 0 = ((n - (a + i) : Nat) : Int) := by simp [dropL, List.getD, h]
theorem dropL_mem (n a c : Nat) (f : Int) : f ∈ dropL n a c ↔ ∃ i, i < c ∧ ((n - (a + i) : Nat) : Int) = f := by simp [dropL]
theorem dropL_snoc (n a c : Nat) : dropL n a (c + 1) = dropL n a c ++ [((n - (a + c) : Nat) : Int)] := by simp [dropL, List.range_succ]
def swF (n a c j : Nat) : Int := if j < a then ((n - j : Nat) : Int) else if j = a then ((n + 1 : Nat) : Int) else ((n - (j + c - 1) : Nat) : Int)
def swS (n a c j : Nat) : Int := if j < a then ((n - j : Nat) : Int) else if j = a then ((n - a : Nat) : Int) else ((n - (j + c - 1) : Nat) : Int)
def swL (n a c : Nat) : List Rn := outL (upR n) [rnOf ((n + 1 : Nat) : Int) ((n - a : Nat) : Int)] (dropL n a c) a
theorem swL_len (n a c : Nat) (h : a + c ≤ n) : (swL n a c).length = n - c + 1 := by
  unfold swL outL
  rw [dropL_len]
  simp [upR_len]
  omega
theorem swL_get (n a c j : Nat) (h : a + c ≤ n) (h1 : 1 ≤ c) (hj : j < n - c + 1) : (swL n a c).getD j zRn = rnOf (swF n a c j) (swS n a c j) := by
  unfold swL outL swF swS
  rw [dropL_len, List.getD_eq_getElem?_getD, List.append_assoc]
  have hta : ((upR n).take a).length = a := by rw [List.length_take, upR_len]; omega
  by_cases h2 : j < a
  · rw [List.getElem?_append_left (by omega), List.getElem?_take, if_pos h2, if_pos h2, if_pos h2, ← List.getD_eq_getElem?_getD]
    exact upR_get n j (by omega)
  · rw [List.getElem?_append_right (by omega), hta, if_neg h2, if_neg h2]
    by_cases h3 : j = a
    · subst h3
      rw [if_pos rfl, if_pos rfl, Nat.sub_self]
      rfl
    · rw [if_neg h3, if_neg h3, List.getElem?_append_right (by simp; omega), List.getElem?_drop, ← List.getD_eq_getElem?_getD]
      have e : a + c + (j - a - [rnOf ((n + 1 : Nat) : Int) ((n - a : Nat) : Int)].length) = j + c - 1 := by simp; omega
      rw [e]
      exact upR_get n _ (by omega)
theorem swL_vok (n a c : Nat) (hn : n ≤ 40) (h : a + c ≤ n) (h1 : 1 ≤ c) : VOk (swL n a c) ((n + 2 : Nat) : Int) 0 n := by
  have hl := swL_len n a c h
  refine vok_of (F := swF n a c) (S := swS n a c) (by omega) (by omega) (by omega) (by omega) (by omega) (by omega) (fun j hj => swL_get n a c j h h1 (by omega)) ?_ ?_ ?_ ?_ ?_
  · intro i j hji hi
    rw [hl] at hi
    unfold swF
    split <;> split <;> (try split) <;> (try split) <;> omega
  · intro j hj
    rw [hl] at hj
    unfold swF
    split <;> (try split) <;> omega
  · intro j hj
    rw [hl] at hj
    unfold swS
    split <;> (try split) <;> omega
  · intro hj
    unfold swS
    split <;> (try split) <;> omega
  · intro j hj
    rw [hl] at hj
    unfold swS
    split <;> split <;> (try split) <;> (try split) <;> omega
theorem swL_at (n a c : Nat) (h : a + c ≤ n) (h1 : 1 ≤ c) : IsAt (upR n) (dropL n a c) a := by
  refine .inr ⟨by rw [upR_len]; omega, ?_, fun i hi hm => ?_⟩
  · rw [upR_get n a (by omega), dropL_mem]
    exact ⟨0, by omega, rfl⟩
  · rw [upR_get n i (by omega), dropL_mem] at hm
    obtain ⟨q, hq, e⟩ := hm
    have e2 : ((n - (a + q) : Nat) : Int) = ((n - i : Nat) : Int) := e
    omega
theorem swL_x (n a c : Nat) (hn : n ≤ 40) (h : a + c ≤ n) (h1 : 1 ≤ c) : applyX (upR n) ((n + 1 : Nat) : Int) 0 n [rnOf ((n + 1 : Nat) : Int) ((n - a : Nat) : Int)] (dropL n a c) ((n + 2 : Nat) : Int) 0 0 a = 0 := by
  unfold applyX
  rw [if_pos ⟨upR_vok n _ (by omega) (by omega) (by omega), eok_one (by omega) (by omega) (by omega) (by omega) (by rw [dropL_len]; omega) (by omega) (by omega) (by omega) (once_ne (fun i j hji hi => by rw [dropL_len] at hi; rw [dropL_get n a c i hi, dropL_get n a c j (by omega)]; omega)) (fun i hi => by rw [dropL_len] at hi; rw [dropL_get n a c i hi]; omega)⟩,
    if_pos (?_ : allIn (upR n) (dropL n a c)), if_neg (?_ : ¬ twice _ _ _), if_neg (by rw [upR_len, dropL_len]; simp; omega), if_pos (?_ : RowAt (upR n) (dropL n a c) a), if_pos (?_ : GoodAt _ _ _ _ _ _ _ _ _ _)]
  · refine ⟨?_, rfl, ?_, ?_⟩
    · unfold laterB; simp
    · unfold outS; rw [if_neg (by omega)]; omega
    · have e1 : laterI ((n + 1 : Nat) : Int) ((n + 2 : Nat) : Int) = ((n + 2 : Nat) : Int) := by unfold laterI; rw [if_neg (by omega)]
      have e3 : outS (n : Int) 0 = n := by unfold outS; rw [if_neg (by omega)]
      rw [e1, e3]
      exact swL_vok n a c hn h h1
  · refine ⟨by rw [dropL_len, upR_len]; omega, fun i h2 h3 => ?_⟩
    rw [dropL_len] at h3
    rw [upR_get n i (by omega), dropL_mem]
    exact ⟨i - a, by omega, by show _ = ((n - i : Nat) : Int); omega⟩
  · rintro ⟨i, hi, h2, h3⟩
    have : i = 0 := by simp at hi; omega
    subst this
    have h4 := (upR_in n _).1 h2
    have e : (([rnOf ((n + 1 : Nat) : Int) ((n - a : Nat) : Int)] : List Rn).getD 0 zRn).file = ((n + 1 : Nat) : Int) := rfl
    rw [e] at h4
    omega
  · intro i hi
    rw [dropL_len] at hi
    rw [dropL_get n a c i hi, upR_in]
    omega
/-- As many files as runs. -/
theorem nodup_of_once {xs : List Int} (h : OnceP xs) : xs.Nodup := by
  rw [List.nodup_iff_pairwise_ne, List.pairwise_iff_getElem]
  intro i j hi hj hij e
  refine h j hj ?_
  have e2 : xs.getD j 0 = xs[j] := by simp [List.getD, hj]
  rw [e2, ← e]
  exact List.mem_take_iff_getElem.2 ⟨i, by omega, rfl⟩
theorem live_len {rs : List Rn} {nx lg sq : Int} {l : List Int} (hv : VOk rs nx lg sq) (h : LiveP rs 0 l) : l.length = rs.length := by
  have h1 : l.Nodup := by
    rw [List.nodup_iff_pairwise_ne]
    exact h.1.imp (fun h e => by omega)
  have h2 : (rs.map Rn.file).Nodup := nodup_of_once hv.2.1
  have hp : l.Perm (rs.map Rn.file) := (List.perm_ext_iff_of_nodup h1 h2).2 (fun x => (h.2 x).trans ⟨fun h => h.elim id (fun h => absurd rfl h.1), .inl⟩)
  rw [hp.length_eq, List.length_map]
end Go.Proofs.Ytgfkpddmjcgceaa.Kx
