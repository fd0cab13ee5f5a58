import Derived.Test.YtgeklapphkgdkaaDsRg
import Derived.Test.YtgeklapphkgdkaaDskT
set_option linter.unusedVariables false
set_option linter.unusedSimpArgs false
namespace Go.Proofs.Ytgeklapphkgdkaa.Dsk
open Go.RowKit Go.Maps Go.Sort Go.Shelf

/-! ### The reference's disk: Fail, List -/
theorem Try.infoI64 : (Try.prog.info? 3).map (fun i => (i.zero, i.size, i.bytes)) = some (some (.int .i64 0), 1, 8) := by kernel_rfl
theorem eight_pos : 0 < 8 := by decide
set_option maxHeartbeats 2000000 in
set_option maxRecDepth 100000 in
theorem r_fail {w : World} {B g : Nat} {σ : DS} {S : Nat → Prop} (h : IsR w B g σ S) {A0 : Option Addr} {n c0 : Nat} {l : List Int} (hl : Rd w .i64 A0 n c0 l) (hb : n * 8 ≤ 140737488355328) :
    Calls Try.prog 42 #[.pointer (some ⟨g, 0, none⟩), .slice A0 n c0] w fun e w' => e = .returned (.tuple #[]) ∧ PostR B g S { σ with fails := l } w w' := by
  obtain ⟨room, v, A, c, ps, hr⟩ := h
  have HR := Kp.mk hr
  have HL := Kp.mk hl
  have HB := Kp.mk hb
  have c2 := cells_top hr.top 2 (.slice A σ.fails.length c) rfl
  have f2 := free_top hr.top 2
  have hln := hl.len
  clear hr hl hb
  go_enter Try.func42, Try.ntmps42
  go_wp2_with (at_builtin; go_must (refine wpList_append_new rfl (.const (.slice none 0 0)) (.tmp 5) 32 3 .i64 8 rfl Try.underlying32 Try.infoI64 eight_pos n c0 l A0 rfl rfl HL.out HB.out ?_); intro A2 c2' w2 h1 h2 h3 h4; have H1 := Kp.mk h1; have H2 := Kp.mk h2; have H3 := Kp.mk h3; have HB2 := Kp.mk h4; have c2 := cell_kept h4 c2; have f2 := free_top ((h4.block _ (lt_of_block HR.out.top)).trans HR.out.top) 2; clear h1 h2 h3 h4)
  go_end0
  subst hln
  refine ⟨rfl, ?_, ?_⟩
  · have h2 := (HR.out.below HB2.out).mono (S2 := fun k => S k ∨ w.heap.size ≤ k) (fun k _ hk => .inl hk)
    refine ⟨room, v, A2, c2', ps, ?_⟩
    have h3 := h2.retop (fr_setg w2 g 2 (.slice A2 l.length c2')) (fails := l) (failed := σ.failed) (A' := A2) (c' := c2') (heap_setCell_same _ _ 2 _ _ _ h2.top) (H1.out.kept (fr_setg _ _ _ _) (fun ad e hn hg => by have := H3.out ad e; have := lt_of_block HR.out.top; omega)) H2.out
      (fun ad e hn => ⟨.inr (H3.out ad e), fun hg => by have := H3.out ad e; have := lt_of_block HR.out.top; omega, fun ho => by have := H3.out ad e; have := rrow_lt HR.out.own _ ho; omega⟩)
    exact h3
  · exact ((Fr.of_below (S := S) HB2.out).setCell (a := ⟨g, 2, none⟩) (.inl HR.out.gS) _)
end Go.Proofs.Ytgeklapphkgdkaa.Dsk
