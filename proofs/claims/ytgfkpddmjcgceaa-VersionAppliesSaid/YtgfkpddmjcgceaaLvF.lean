import Derived.Test.YtgfkpddmjcgceaaLvD
import Derived.Test.YtgfkpddmjcgceaaLvE
import Derived.Test.YtgfkpddmjcgceaaVrE
set_option linter.unusedVariables false
set_option linter.unusedSimpArgs false
namespace Go.Proofs.Ytgfkpddmjcgceaa.Kx
open Go.RowKit Go.Maps Go.Sort Go.Proofs.YtgfkpddmjcgceaaW.PrintWords

/-- What the selection knows: the list, what is out, what is left. -/
def SelI (L os ys : List Int) : Prop := Asc os ∧ (∀ x, x ∈ os → ∀ y, y ∈ ys → x ≤ y) ∧ ∀ x, x ∈ L ↔ x ∈ os ∨ x ∈ ys
theorem cut_mem {ys : List Int} {k : Nat} (hk : k < ys.length) (x : Int) : x ∈ ys ↔ x = ys.getD k 0 ∨ x ∈ ys.take k ++ ys.drop (k + 1) := by
  have h : ys = ys.take k ++ (ys.getD k 0 :: ys.drop (k + 1)) := by rw [← drop_getD hk, List.take_append_drop]
  constructor
  · intro hx
    rw [h, List.mem_append, List.mem_cons] at hx
    rw [List.mem_append]
    rcases hx with hx | hx | hx
    · exact .inr (.inl hx)
    · exact .inl hx
    · exact .inr (.inr hx)
  · intro hx
    rw [h, List.mem_append, List.mem_cons]
    rw [List.mem_append] at hx
    rcases hx with hx | hx | hx
    · exact .inr (.inl hx)
    · exact .inl hx
    · exact .inr (.inr hx)
theorem min_all {ys : List Int} {k : Nat} (h : ∀ i, i < ys.length → ys.getD k 0 ≤ ys.getD i 0) (y : Int) (hy : y ∈ ys) : ys.getD k 0 ≤ y := by
  obtain ⟨j, hj, rfl⟩ := mem_getD (z := 0) hy
  exact h j hj
theorem sel_in {L os ys : List Int} {k : Nat} (h : SelI L os ys) (hk : k < ys.length) (hm : ys.getD k 0 ∈ os) : SelI L os (ys.take k ++ ys.drop (k + 1)) :=
  ⟨h.1, fun x hx y hy => h.2.1 x hx y ((cut_mem hk y).2 (.inr hy)), fun x => (h.2.2 x).trans ⟨fun h2 => h2.elim .inl (fun h3 => ((cut_mem hk x).1 h3).elim (fun e => .inl (e ▸ hm)) .inr), fun h2 => h2.elim .inl (fun h3 => .inr ((cut_mem hk x).2 (.inr h3)))⟩⟩
theorem sel_out {L os ys : List Int} {k : Nat} (h : SelI L os ys) (hk : k < ys.length) (hmin : ∀ i, i < ys.length → ys.getD k 0 ≤ ys.getD i 0) (hm : ys.getD k 0 ∉ os) : SelI L (os ++ [ys.getD k 0]) (ys.take k ++ ys.drop (k + 1)) := by
  refine ⟨asc_snoc h.1 (fun y hy => ?_), fun x hx y hy => ?_, fun x => (h.2.2 x).trans ?_⟩
  · have h1 := h.2.1 y hy (ys.getD k 0) (getD_mem hk)
    have h2 : y ≠ ys.getD k 0 := fun e => hm (e ▸ hy)
    omega
  · have hy2 := (cut_mem hk y).2 (.inr hy)
    rcases List.mem_append.1 hx with h1 | h1
    · exact h.2.1 x h1 y hy2
    · rw [List.mem_singleton.1 h1]; exact min_all hmin y hy2
  · rw [List.mem_append, List.mem_singleton]
    constructor
    · rintro (h2 | h3)
      · exact .inl (.inl h2)
      · rcases (cut_mem hk x).1 h3 with e | e
        · exact .inl (.inr e)
        · exact .inr e
    · rintro ((h2 | e) | h3)
      · exact .inl h2
      · exact .inr ((cut_mem hk x).2 (.inl e))
      · exact .inr ((cut_mem hk x).2 (.inr h3))
theorem sel_live0 {rs : List Rn} {l : List Int} (h : SelI (rs.map Rn.file) l []) : LiveP rs 0 l :=
  ⟨h.1, fun x => ⟨fun hx => .inl ((h.2.2 x).2 (.inl hx)), fun hx => hx.elim (fun h1 => ((h.2.2 x).1 h1).elim id (fun h => by cases h)) (fun h1 => absurd rfl h1.1)⟩⟩
theorem sel_live1 {rs : List Rn} {lg : Int} {l : List Int} (h0 : lg ≠ 0) (h : SelI (rs.map Rn.file ++ [lg]) l []) : LiveP rs lg l :=
  ⟨h.1, fun x => by
    have h1 := h.2.2 x
    rw [List.mem_append, List.mem_singleton] at h1
    constructor
    · intro hx
      rcases h1.2 (.inl hx) with h2 | h2
      · exact .inl h2
      · exact .inr ⟨h0, h2⟩
    · rintro (h2 | h2)
      · exact (h1.1 (.inl h2)).elim id (fun h => by cases h)
      · exact (h1.1 (.inr h2.2)).elim id (fun h => by cases h)⟩
def slen : Value → Nat
  | .slice _ n _ => n
  | _ => 0
/-- A row stays apart from another that grows. -/
theorem R_apart {W W1 : World} {base : Nat} {v u u1 : Value} {ys : List Int} (h : (Kd.int .i64).R 3 W base (fun k => some k ≠ u.ownBlock) v ys) (hg : W.grownBy W1 u.ownBlock) (hat : u1.ownBlock = u.ownBlock ∨ ∃ b, u1.ownBlock = some b ∧ W.heap.size ≤ b) :
    (Kd.int .i64).R 3 W1 base (fun k => some k ≠ u1.ownBlock) v ys :=
  Kd.R_mono (Kd.R_grown (Kd.R_bound h) hg (fun k hk => hk.1)) (fun k hk => by
    rcases hat with e | ⟨b, e, hle⟩
    · rw [e]; exact hk.1
    · rw [e]; intro e2; injection e2 with e2; have := hk.2.2.1; omega)
/-- A new row is apart from what was. -/
theorem R_fresh {W W1 : World} {base B : Nat} {v u : Value} {ys os : List Int} (h : (Kd.int .i64).R 3 W1 W.heap.size (fun _ => True) v ys) (hu : (Kd.int .i64).R 3 W B (fun _ => True) u os) (hb : base ≤ W.heap.size) :
    (Kd.int .i64).R 3 W1 base (fun k => some k ≠ u.ownBlock) v ys :=
  Kd.R_lower (Kd.R_mono (Kd.R_bound h) (fun k hk e => by
    obtain ⟨inner, ho⟩ := Kd.R_own hu
    have := own_lt ho k e.symm
    have := hk.2.1
    omega)) hb
end Go.Proofs.Ytgfkpddmjcgceaa.Kx
