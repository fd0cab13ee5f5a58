import Derived.Test.YtgeklapphkgdkaaDskI
set_option linter.unusedVariables false
set_option linter.unusedSimpArgs false
namespace Go.Proofs.Ytgeklapphkgdkaa.Dsk
open Go.RowKit Go.Maps

theorem failed_any (g : Nat) (x : Int) (w : World) (c4 : w.cell? ⟨g, 4, none⟩ = some (.int .i64 x)) : Calls Try.prog 15 #[.pointer (some ⟨g, 0, none⟩)] w fun e w' => e = .returned (.int .i64 x) ∧ w' = w := by
  go_enter Try.func15, Try.ntmps15
  go_wp2
  go_ret
  exact ⟨rfl, rfl⟩
theorem IsDisk.used {w : World} {B g : Nat} {σ : DS} {S : Nat → Prop} (h : IsDisk w B g σ S) : w.cell? ⟨g, 2, none⟩ = some (.int .i64 (used σ.files)) := by
  obtain ⟨L, mb, A, c, h⟩ := h
  exact cells_top h.top 2 _ rfl
theorem IsDisk.failed {w : World} {B g : Nat} {σ : DS} {S : Nat → Prop} (h : IsDisk w B g σ S) : w.cell? ⟨g, 4, none⟩ = some (.int .i64 σ.failed) := by
  obtain ⟨L, mb, A, c, h⟩ := h
  exact cells_top h.top 4 _ rfl

set_option maxHeartbeats 1000000 in
set_option maxRecDepth 100000 in
theorem fail_any (w : World) (B g : Nat) (σ : DS) (S : Nat → Prop) (A0 : Option Addr) (n c0 : Nat) (l : List Int) (h : IsDisk w B g σ S) (hBw : B ≤ w.heap.size) (hl : Rd w .i64 A0 n c0 l) (hb : n * 8 ≤ 140737488355328) :
    Calls Try.prog 14 #[.pointer (some ⟨g, 0, none⟩), .slice A0 n c0] w fun e w' => e = .returned (.tuple #[]) ∧ Post B g S { σ with fails := l } w w' := by
  have Hc := Kp.mk (clone_int w A0 n c0 l hl hb)
  have hlen := Kp.mk hl.len
  obtain ⟨L, mb, A, c, hd⟩ := h
  have HD := Kp.mk hd
  clear hd hl
  go_enter Try.func14, Try.ntmps14
  go_wp2_with fail
  refine Hc.out.mono ?_
  rintro e w1 ⟨A', c', rfl, hown, hb1⟩
  have hgt := (hb1.block g (lt_of_block HD.out.top)).trans HD.out.top
  have c3 := cells_top hgt 3 _ rfl
  have f3 := free_top hgt 3
  have Hown := Kp.mk hown
  have Hb1 := Kp.mk hb1
  have Hgt := Kp.mk hgt
  clear hown hb1 hgt
  go_wp2
  go_end0
  refine ⟨rfl, ?_, ((Fr.of_below (S := S) Hb1.out)).setCell (a := ⟨g, 3, none⟩) (.inl HD.out.gS) _⟩
  have hd1 := (HD.out.heap (W := w1) (fun k _ hk => Hb1.out.block k hk)).mono (S2 := fun k => S k ∨ w.heap.size ≤ k) (fun k _ hk => .inl hk)
  refine ⟨L, mb, A', c', hd1.retop (fun k hk => setCell_heap _ _ _ _ _ hk) (by rw [heap_setCell_same _ _ _ _ _ _ Hgt.out, hlen.out]; rfl) ?_⟩
  rcases Hown.out.2 with ⟨e1, e2⟩ | ⟨q, cap, cur, e1, hB, hh, h3, h4, h5, h6⟩
  · injection e1 with e1 e3 e4
    have : l = [] := List.eq_nil_of_length_eq_zero (by rw [hlen.out]; exact e2)
    subst this
    exact FailsAt.nil (by omega)
  · injection e1 with e1 e3 e4
    subst e1 e4
    refine ⟨by rw [hlen.out]; exact h3, by unfold maxLen at h4; omega, .inr ⟨q, 0, cur, (0, 0), rfl, .inr hB, by omega, hh, fun j hj => ?_⟩⟩
    have hj2 : j < cur.toList.length := by simp only [Array.length_toList]; rw [h5]; have := hlen.out; omega
    have h7 : (cur.toList.take (n * 1))[j]? = some (.int .i64 (l.getD j 0)) := by rw [h6]; simp [nums, List.getD, hj]
    rw [List.getElem?_take_of_lt (by have := hlen.out; omega)] at h7
    rw [Nat.zero_add, ← Array.getElem?_toList]; exact h7
end Go.Proofs.Ytgeklapphkgdkaa.Dsk
