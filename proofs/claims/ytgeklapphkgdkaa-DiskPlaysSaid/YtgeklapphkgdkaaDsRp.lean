import Derived.Test.YtgeklapphkgdkaaDsRo
set_option linter.unusedVariables false
set_option linter.unusedSimpArgs false
namespace Go.Proofs.Ytgeklapphkgdkaa.Dsk
open Go.RowKit Go.Maps

/-! ### The reference's disk: other bytes of a file, one file more -/
set_option maxHeartbeats 1000000 in
theorem RD.bytes {W w5 : World} {B g : Nat} {σ : DS} {S : Nat → Prop} {room : Int} {q nv cv : Nat} {A : Option Addr} {c : Nat} {ps : List PF} (h : RD W B g σ S room (.slice (some ⟨q, 0, none⟩) nv cv) A c ps) {p : Nat} (hp : p < nv) (hB : Below W.heap.size W w5)
    {A2 : Option Addr} {n2 c2 : Nat} {xs : List Int} (ho : w5.ownsRow W.heap.size 5 1 (.slice A2 n2 c2) n2 (nums .u8 xs)) (hn : n2 ≤ 16777216) (hsyn : (σ.files.getD p afD).2.2 ≤ n2) :
    ∃ ps' : List PF, ps'.length = ps.length ∧ RD (w5.setCell ⟨q, p * 3 + 1, none⟩ (.slice A2 n2 c2)) B g { σ with files := σ.files.set p ((σ.files.getD p afD).1, (xs, (σ.files.getD p afD).2.2)) } (fun k => S k ∨ W.heap.size ≤ k) room (.slice (some ⟨q, 0, none⟩) nv cv) A c ps' := by
  obtain ⟨hpl, hmem, hgh⟩ := h.ghost hp
  obtain ⟨nj, Aj, lj, cj, ej, g1, hrd, g3, g4, g5, g6⟩ := (h.file _ hmem).out
  obtain ⟨hrd2, hsp⟩ := own_rd ho (by omega)
  have hq := h.vS q rfl
  have hqlt : q < W.heap.size := rrow_lt h.own q rfl
  have hglt := lt_of_block h.top
  have hc2 : n2 ≤ c2 := by
    rcases ho.2 with ⟨e1, e2⟩ | ⟨q2, cap, cur, e1, _, hh, h4, h5, _⟩
    · injection e1 with _ e1 e3
      omega
    · injection e1 with _ e1 e3
      omega
  have hS2 := (h.below hB).mono (S2 := fun k => S k ∨ W.heap.size ≤ k) (fun k _ hk => .inl hk)
  refine ⟨_, ?_, hS2.put hpl (show 1 < 3 by omega) (vs' := #[.string nj, .slice A2 n2 c2, .int .i64 ((σ.files.getD p afD).2.2 : Nat)]) (f' := ((σ.files.getD p afD).1, (xs, (σ.files.getD p afD).2.2))) (by rw [ej, hgh]; rfl) rfl ?_ ?_⟩
  · rw [List.length_set]
  · refine ⟨nj, A2, n2, c2, rfl, by rw [g1, hgh], ?_, hc2, hn, hsyn, g6⟩
    exact hrd2.kept ((Fr.refl w5 (fun k => k = q)).setCell (a := ⟨q, p * 3 + 1, none⟩) (.inl rfl) _) (fun ad e hn he => by have := (hsp ad e).2.1; omega)
  · intro A' n' c' hm hn'
    have e : A2 = some A' := by
      simp at hm
      exact hm.1.symm
    have := (hsp A' e).2.1
    exact ⟨.inr this, by omega, by omega⟩
/-- A new file has no bytes. -/
theorem fileNew (w : World) (nm : ByteArray) (hs : nm.size ≤ 100000) : FileC w #[.string nm, .slice none 0 0, .int .i64 (0 : Nat)] (nm.data.toList, ([], 0)) :=
  ⟨nm, none, 0, 0, rfl, rfl, nil_rd _ _, Nat.le_refl _, by omega, Nat.le_refl _, hs⟩
def newPF (nm : ByteArray) : PF := (#[.string nm, .slice none 0 0, .int .i64 0], (nm.data.toList, ([], 0)))
theorem newPF_file (w : World) (nm : ByteArray) (hs : nm.size ≤ 100000) : ∀ p ∈ [newPF nm], FileC w p.1 p.2 := fun p hp => by
  rw [List.mem_singleton.1 hp]
  exact fileNew w nm hs
theorem row3_new (W : World) (nm : ByteArray) : Row3 (W.alloc (.cells #[.string nm, .slice none 0 0, .int .i64 0] 88)) (some ⟨W.heap.size, 0, none⟩) 1 [newPF nm] :=
  ⟨rfl, (fun e => by cases e), fun ad e j u hu => by
    injection e with e
    subst e
    rw [Addr.add_lit, Nat.zero_add, cell_of_row _ _ _ _ _ _ (heap_alloc_new W _)]
    simpa [flat3, newPF] using hu⟩
theorem own_alloc {W : World} {B e n size : Nat} {v : Value} {xs : List Value} (h : W.ownsRow B e size v n xs) (o : Obj) : (W.alloc o).ownsRow B e size v n xs :=
  rrow_heap h (fun k hk => Below.heap_alloc W o k (rrow_lt h k hk))
theorem used_most : ∀ (fs : AF), (∀ x ∈ fs, x.2.1.length ≤ 16777216) → 0 ≤ used fs ∧ used fs ≤ (fs.length : Int) * 16777216
  | [], _ => by simp [used]
  | y :: r, h => by
    have ih := used_most r (fun x hx => h x (List.mem_cons_of_mem _ hx))
    have := h y (by simp)
    simp only [used, List.length_cons]
    omega
/-- The parts of the list, as they are read. -/
theorem RD.rows {w : World} {B g : Nat} {σ : DS} {S : Nat → Prop} {room : Int} {Av : Option Addr} {nv cv : Nat} {A : Option Addr} {c : Nat} {ps : List PF} (h : RD w B g σ S room (.slice Av nv cv) A c ps) {p : Nat} (hp : p ≤ nv) :
    Row3 w Av p (ps.take p) ∧ (Av = none → nv = 0 ∧ cv = 0) ∧ Row3 w (if cv = p then Av else Option.map (fun x : Addr => x.add (p * 3)) Av) (nv - p) (ps.drop p) ∧ ((if cv = p then Av else Option.map (fun x : Addr => x.add (p * 3)) Av) = none → cv - p = 0) := by
  obtain ⟨hnv, hcv, h3, h4⟩ := own_row3 h.own h.file
  have hrow : Row3 w Av nv ps := ⟨hnv, fun e => (h4 e).1, fun ad e j u hu => by
    rcases Nat.eq_zero_or_pos nv with h0 | h0
    · have : ps = [] := List.eq_nil_of_length_eq_zero (by omega)
      rw [this] at hu
      simp [flat3] at hu
    · obtain ⟨q, e1, hc⟩ := h3 h0
      rw [e1] at e
      injection e with e
      subst e
      rw [Addr.add_lit, Nat.zero_add]
      exact hc j u hu⟩
  refine ⟨row3_take hrow h.file hp, h4, ?_, fun e => ?_⟩
  · rcases row3_drop (c := cv) hrow h.file hp with hd | hd
    · exact hd
    · rw [if_pos hd]
      refine ⟨by rw [List.length_drop]; omega, fun e => by have := h4 e; omega, fun ad e j u hu => ?_⟩
      rw [List.drop_eq_nil_of_le (by omega)] at hu
      simp [flat3] at hu
  · by_cases hc : cv = p
    · omega
    · rw [if_neg hc] at e
      cases Av with
      | none => have := h4 rfl; omega
      | some x => simp at e
end Go.Proofs.Ytgeklapphkgdkaa.Dsk
