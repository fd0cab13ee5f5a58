import Derived.Test.YtgfkpddmjcgceaaVrQ
set_option linter.unusedVariables false
set_option linter.unusedSimpArgs false
namespace Go.Proofs.Ytgfkpddmjcgceaa.Kx
open Go.RowKit Go.Maps Go.Proofs.YtgfkpddmjcgceaaW.PrintWords

/-! ### Pigeonholes -/
theorem len_le_of_sub {α : Type} [DecidableEq α] : ∀ {l l' : List α}, l.Nodup → (∀ x, x ∈ l → x ∈ l') → l.length ≤ l'.length
  | [], _, _, _ => Nat.zero_le _
  | x :: xs, l', hn, hs => by
    have h1 := List.nodup_cons.1 hn
    have hx : x ∈ l' := hs x List.mem_cons_self
    have h2 : xs.length ≤ (l'.erase x).length := len_le_of_sub h1.2 (fun y hy => (List.mem_erase_of_ne (by rintro rfl; exact h1.1 hy)).2 (hs y (List.mem_cons_of_mem _ hy)))
    rw [List.length_erase_of_mem hx] at h2
    have : 0 < l'.length := List.length_pos_of_mem hx
    simp only [List.length_cons]
    omega
theorem sub_of_len {α : Type} [DecidableEq α] {l l' : List α} (hn : l.Nodup) (hs : ∀ x, x ∈ l → x ∈ l') (hl : l'.length ≤ l.length) : ∀ x, x ∈ l' → x ∈ l := by
  intro x hx
  apply Classical.byContradiction
  intro hne
  have h : (x :: l).length ≤ l'.length := len_le_of_sub (List.nodup_cons.2 ⟨hne, hn⟩) (fun y hy => (List.mem_cons.1 hy).elim (fun e => e ▸ hx) (hs y))
  simp only [List.length_cons] at h
  omega
theorem once_nodup {xs : List Int} (h : OnceP xs) : xs.Nodup := by
  rw [List.nodup_iff_pairwise_ne, List.pairwise_iff_getElem]
  intro i j hi hj hij e
  refine h j hj ?_
  have e2 : xs.getD j 0 = xs[j] := by simp [List.getD, hj]
  rw [e2, ← e]
  exact List.mem_take_iff_getElem.2 ⟨i, by omega, rfl⟩
/-- The files of a version are each its own. -/
theorem files_ne {rs : List Rn} (h : OnceP (rs.map Rn.file)) {i j : Nat} (hi : i < rs.length) (hj : j < rs.length) (e : (rs.getD i zRn).file = (rs.getD j zRn).file) : i = j := by
  have key : ∀ {i j : Nat}, i < j → j < rs.length → (rs.getD i zRn).file ≠ (rs.getD j zRn).file := fun {i j} hij hj e => by
    refine h j (by rw [List.length_map]; exact hj) ?_
    rw [map_getD_file rs j hj, ← e, List.mem_take_iff_getElem]
    exact ⟨i, by simp; omega, by simp [List.getD, show i < rs.length by omega]⟩
  rcases Nat.lt_trichotomy i j with h1 | h1 | h1
  · exact absurd e (key h1 hj)
  · exact h1
  · exact absurd e.symm (key h1 hi)
/-- What the reference's first loop knows behind k of drop's files. -/
def LowHigh (rs : List Rn) (drop : List Int) (k : Nat) (lo hi : Int) : Prop :=
  (∀ i, i < k → inF rs (drop.getD i 0)) ∧ (∀ j, j < rs.length → (∃ i, i < k ∧ drop.getD i 0 = (rs.getD j zRn).file) → lo ≤ j ∧ (j : Int) ≤ hi) ∧
  ((k = 0 ∧ lo = rs.length ∧ hi = -1) ∨ (0 < k ∧ ∃ a b : Nat, lo = a ∧ hi = b ∧ a < rs.length ∧ b < rs.length ∧ (∃ i, i < k ∧ drop.getD i 0 = (rs.getD a zRn).file) ∧ ∃ i, i < k ∧ drop.getD i 0 = (rs.getD b zRn).file))
theorem lh_start (rs : List Rn) (drop : List Int) : LowHigh rs drop 0 rs.length (-1) :=
  ⟨fun i hi => by omega, fun j _ ⟨i, hi, _⟩ => by omega, .inl ⟨rfl, rfl, rfl⟩⟩
theorem lh_step {rs : List Rn} {drop : List Int} {k p : Nat} {lo hi : Int} (ho : OnceP (rs.map Rn.file)) (h : LowHigh rs drop k lo hi) (hp : p < rs.length) (hf : (rs.getD p zRn).file = drop.getD k 0) :
    LowHigh rs drop (k + 1) (if (p : Int) < lo then p else lo) (if hi < (p : Int) then p else hi) := by
  obtain ⟨h1, h2, h3⟩ := h
  refine ⟨fun i hi => ?_, fun j hj ⟨i, hi, e⟩ => ?_, .inr ⟨by omega, ?_⟩⟩
  · by_cases hik : i = k
    · subst hik; exact ⟨p, hp, hf⟩
    · exact h1 i (by omega)
  · by_cases hik : i = k
    · subst hik
      have : p = j := files_ne ho hp hj (hf.trans e)
      subst this
      constructor
      · split <;> omega
      · split <;> omega
    · have := h2 j hj ⟨i, by omega, e⟩
      constructor
      · split <;> omega
      · split <;> omega
  · rcases h3 with ⟨rfl, rfl, rfl⟩ | ⟨_, a, b, rfl, rfl, ha, hb, ⟨i, hi, ei⟩, ⟨j, hj, ej⟩⟩
    · exact ⟨p, p, if_pos (by omega), if_pos (by omega), hp, hp, ⟨0, by omega, hf.symm⟩, ⟨0, by omega, hf.symm⟩⟩
    · refine ⟨if p < a then p else a, if b < p then p else b, ?_, ?_, ?_, ?_, ?_, ?_⟩
      · split <;> split <;> omega
      · split <;> split <;> omega
      · split <;> omega
      · split <;> omega
      · split
        · exact ⟨k, by omega, hf.symm⟩
        · exact ⟨i, by omega, ei⟩
      · split
        · exact ⟨k, by omega, hf.symm⟩
        · exact ⟨j, by omega, ej⟩
theorem mem_idx {drop : List Int} {f : Int} : f ∈ drop ↔ ∃ i, i < drop.length ∧ drop.getD i 0 = f := by
  constructor
  · intro h
    obtain ⟨i, hi, e⟩ := List.getElem_of_mem h
    exact ⟨i, hi, by simp [List.getD, hi, e]⟩
  · rintro ⟨i, hi, rfl⟩
    exact getD_mem hi
/-- Where the edit's runs go, and whether drop's stand in a row. -/
theorem lh_at {rs : List Rn} {drop : List Int} {lo hi : Int} (h : LowHigh rs drop drop.length lo hi) (hd : 0 < drop.length) : ∃ a b : Nat, lo = a ∧ hi = b ∧ a ≤ b ∧ b < rs.length ∧ IsAt rs drop a := by
  obtain ⟨h1, h2, h3⟩ := h
  rcases h3 with ⟨h0, _⟩ | ⟨_, a, b, rfl, rfl, ha, hb, hia, hib⟩
  · omega
  · refine ⟨a, b, rfl, rfl, ?_, hb, .inr ⟨ha, mem_idx.2 hia, fun i hi hm => ?_⟩⟩
    · have := h2 a ha hia; omega
    · have := h2 i (by omega) (mem_idx.1 hm); omega
theorem lh_row {rs : List Rn} {drop : List Int} {a b : Nat} (ho : OnceP (rs.map Rn.file)) (hod : OnceP drop) (h : LowHigh rs drop drop.length a b) (hab : a ≤ b) (hb : b < rs.length) (hd : 0 < drop.length) : b + 1 = a + drop.length ↔ RowAt rs drop a := by
  obtain ⟨h1, h2, h3⟩ := h
  have hib : ∃ i, i < drop.length ∧ drop.getD i 0 = (rs.getD b zRn).file := by
    rcases h3 with ⟨h0, _⟩ | ⟨_, a', b', ea, eb, _, _, _, hib⟩
    · omega
    · have : b = b' := by omega
      rw [this]; exact hib
  constructor
  · intro hl
    refine ⟨by omega, fun i hi1 hi2 => ?_⟩
    -- the files of drop are among the files of the row, and as many
    have hs := sub_of_len (l := drop) (l' := (List.range' a drop.length).map fun j => (rs.getD j zRn).file) (once_nodup hod) (fun f hf => by
      obtain ⟨q, hq, rfl⟩ := mem_idx.1 hf
      obtain ⟨j, hj, e⟩ := h1 q hq
      have h4 := h2 j hj ⟨q, hq, e.symm⟩
      exact List.mem_map.2 ⟨j, List.mem_range'_1.2 ⟨by omega, by omega⟩, e⟩) (by simp)
    exact hs _ (List.mem_map.2 ⟨i, List.mem_range'_1.2 ⟨hi1, hi2⟩, rfl⟩)
  · rintro ⟨hle, hrow⟩
    have hn : ((List.range' a drop.length).map fun j => (rs.getD j zRn).file).Nodup := by
      rw [List.nodup_iff_pairwise_ne, List.pairwise_map]
      refine (List.nodup_iff_pairwise_ne.1 (List.nodup_range' (s := a) (n := drop.length))).imp_of_mem ?_
      intro i j hi hj hne e
      have hi' := List.mem_range'_1.1 hi
      have hj' := List.mem_range'_1.1 hj
      exact hne (files_ne ho (by omega) (by omega) e)
    have hs := sub_of_len hn (l' := drop) (fun f hf => by
      obtain ⟨j, hj, rfl⟩ := List.mem_map.1 hf
      have hj' := List.mem_range'_1.1 hj
      exact hrow j hj'.1 hj'.2) (by simp)
    -- the last of the row is among drop, so it is at most b; and b's file is one of the row
    have h5 := h2 (a + drop.length - 1) (by omega) (mem_idx.1 (hrow _ (by omega) (by omega)))
    obtain ⟨j, hj, e⟩ := List.mem_map.1 (hs _ (mem_idx.2 hib))
    have hj' := List.mem_range'_1.1 hj
    have : j = b := files_ne ho (by omega) hb e
    omega
end Go.Proofs.Ytgfkpddmjcgceaa.Kx
