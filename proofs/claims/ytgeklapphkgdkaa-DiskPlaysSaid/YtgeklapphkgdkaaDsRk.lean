import Derived.Test.YtgeklapphkgdkaaDsRj
set_option linter.unusedVariables false
set_option linter.unusedSimpArgs false
namespace Go.Proofs.Ytgeklapphkgdkaa.Dsk
open Go.RowKit Go.Maps

/-! ### A file of the reference is changed in its place -/
theorem flat3_set {w : World} : ∀ {ps : List PF}, (∀ p ∈ ps, FileC w p.1 p.2) → ∀ {i j : Nat} {u : Value} {vs' : Array Value} {f' : List UInt8 × List Int × Nat}, i < ps.length → j < 3 → vs'.toList = ((ps.getD i (#[], ([], [], 0))).1).toList.set j u → (flat3 ps).set (i * 3 + j) u = flat3 (ps.set i (vs', f'))
  | [], _, i, j, u, vs', f', hi, _, _ => by simp at hi
  | p :: r, h, i, j, u, vs', f', hi, hj, hv => by
    have h1 := (h p (by simp)).size
    have e : flat3 (p :: r) = p.1.toList ++ flat3 r := by simp [flat3]
    cases i with
    | zero =>
      have e2 : flat3 ((p :: r).set 0 (vs', f')) = vs'.toList ++ flat3 r := by simp [flat3]
      rw [e, e2, hv]
      simp only [Nat.zero_mul, Nat.zero_add, List.getD_cons_zero]
      rw [List.set_append_left _ _ (by rw [Array.length_toList, h1]; omega)]
    | succ i =>
      have ih := flat3_set (ps := r) (fun q hq => h q (List.mem_cons_of_mem _ hq)) (i := i) (j := j) (u := u) (vs' := vs') (f' := f') (by simpa using hi) hj (by simpa using hv)
      have e2 : flat3 ((p :: r).set (i + 1) (vs', f')) = p.1.toList ++ flat3 (r.set i (vs', f')) := by simp [flat3]
      rw [e, e2, List.set_append_right _ _ (by rw [Array.length_toList, h1]; omega), Array.length_toList, h1, ← ih]
      congr 2
      omega
theorem own_set {w : World} {B e size n q t : Nat} {c : Nat} {m : Nat} {xs : List Value} (h : w.ownsRow B e size (.slice (some ⟨q, 0, none⟩) m c) n xs) (ht : t < xs.length) (u : Value) : (w.setCell ⟨q, t, none⟩ u).ownsRow B e size (.slice (some ⟨q, 0, none⟩) m c) n (xs.set t u) := by
  obtain ⟨h1, h2⟩ := h
  refine ⟨by rw [List.length_set]; exact h1, ?_⟩
  rcases h2 with ⟨e1, _⟩ | ⟨g, cap, cur, e1, hB, hh, h3, h4, h5, h6⟩
  · cases e1
  · have e2 := e1
    injection e2 with e2 e3 e4
    injection e2 with e2
    injection e2 with e2 _ _
    subst e2
    refine .inr ⟨q, cap, _, e1, hB, heap_setCell_same w q t _ _ u hh, h3, h4, by simpa using h5, ?_⟩
    rw [← h6]
    simp
    rw [List.take_set]
set_option maxHeartbeats 1000000 in
/-- One cell of one file is another one. -/
theorem RD.put {w : World} {B g : Nat} {σ : DS} {S : Nat → Prop} {room : Int} {q nv cv : Nat} {A : Option Addr} {c : Nat} {ps : List PF} (h : RD w B g σ S room (.slice (some ⟨q, 0, none⟩) nv cv) A c ps) {i j : Nat} (hi : i < ps.length) (hj : j < 3) {u : Value} {vs' : Array Value} {f' : List UInt8 × List Int × Nat}
    (hv : vs'.toList = ((ps.getD i (#[], ([], [], 0))).1).toList.set j u) (hn : f'.1 = (σ.files.getD i afD).1) (hf : FileC (w.setCell ⟨q, i * 3 + j, none⟩ u) vs' f') (hfar : ∀ A n c, Value.slice (some A) n c ∈ vs'.toList → 0 < n → S A.block ∧ A.block ≠ g ∧ q ≠ A.block) :
    RD (w.setCell ⟨q, i * 3 + j, none⟩ u) B g { σ with files := σ.files.set i f' } S room (.slice (some ⟨q, 0, none⟩) nv cv) A c (ps.set i (vs', f')) := by
  have hq := h.vS q rfl
  have hfr : Fr w (w.setCell ⟨q, i * 3 + j, none⟩ u) (fun k => k = q) := (Fr.refl w (fun k => k = q)).setCell (a := ⟨q, i * 3 + j, none⟩) (.inl rfl) u
  have hget : ∀ p ∈ ps.set i (vs', f'), p ∈ ps ∨ p = (vs', f') := fun p hp => by
    rcases List.mem_or_eq_of_mem_set hp with h | h
    · exact .inl h
    · exact .inr h
  refine ⟨?_, ?_, ?_, ?_, ?_, h.fails.kept hfr (fun ad e hn hS => (h.ffar ad e hn).2.2 (by rw [hS]; rfl)), h.fcap, h.ffar, h.gB, h.gS, h.vS, h.room, ?_, by rw [List.length_set]; exact h.most⟩
  · rw [List.map_set, h.abs]
  · exact (hfr.block g (lt_of_block h.top) (fun e => hq.2 e.symm)).trans h.top
  · have h1 := own_set h.own (t := i * 3 + j) (by rw [flat3_len h.file]; omega) u
    rw [flat3_set h.file hi hj hv] at h1
    rw [List.length_set]
    exact h1
  · intro p hp
    rcases hget p hp with h1 | h1
    · exact (h.file p h1).kept hfr (fun A n c hm hn hS => (h.far p h1 A n c hm hn).2.2 (by rw [hS]; rfl))
    · rw [h1]; exact hf
  · intro p hp A n c hm hn
    rcases hget p hp with h1 | h1
    · exact h.far p h1 A n c hm hn
    · rw [h1] at hm
      have := hfar A n c hm hn
      exact ⟨this.1, this.2.1, fun e => this.2.2 (by injection e)⟩
  · unfold Srt
    have hs := h.srt
    unfold Srt at hs
    rw [← List.pairwise_map (f := fun x : List UInt8 × List Int × Nat => x.1) (R := fun a b => bytesBefore a b = true)] at hs ⊢
    rw [List.map_set, hn]
    have e : (σ.files.map (fun x => x.1)).set i (σ.files.getD i afD).1 = σ.files.map (fun x => x.1) := by
      apply List.ext_getElem?
      intro k
      rw [List.getElem?_set]
      split
      · rename_i hk
        subst hk
        have hil : i < σ.files.length := by rw [← h.abs, List.length_map]; exact hi
        simp [List.getD, hil]
      · rfl
    rw [e]
    exact hs
/-- A file is put where it stands. -/
theorem setA_pos (nm : List UInt8) (v : List Int × Nat) : ∀ {fs : AF}, Srt fs → hasA nm fs = true → setA nm v fs = fs.set (posA nm fs) (nm, v)
  | [], _, h => by simp [hasA] at h
  | y :: r, hs, h => by
    have hs' := List.pairwise_cons.1 hs
    by_cases hb : bytesBefore y.1 nm = true
    · have hne : y.1 ≠ nm := fun e => by rw [e, before_irrefl] at hb; cases hb
      have hp : posA nm (y :: r) = posA nm r + 1 := by show (if _ then _ else _) = _; rw [if_pos hb]
      have hh : hasA nm (y :: r) = hasA nm r := by
        unfold hasA
        rw [hp]
        simp
      rw [hh] at h
      have ih := setA_pos nm v (fs := r) hs'.2 h
      rw [hp, List.set_cons_succ, ← ih]
      simp [setA, hne]
    · have hp : posA nm (y :: r) = 0 := by show (if _ then _ else _) = _; rw [if_neg hb]
      have he : y.1 = nm := by
        unfold hasA at h
        rw [hp] at h
        simpa using h
      rw [hp, List.set_cons_zero]
      unfold setA
      rw [List.map_cons, if_pos he]
      congr 1
      have hmap : r.map (fun z => if z.1 = nm then (nm, v) else z) = r.map id := List.map_congr_left (fun x hx => by
        have := hs'.1 x hx
        rw [if_neg (fun e => by rw [e, ← he, before_irrefl] at this; cases this)]
        rfl)
      rw [hmap, List.map_id]
end Go.Proofs.Ytgeklapphkgdkaa.Dsk
