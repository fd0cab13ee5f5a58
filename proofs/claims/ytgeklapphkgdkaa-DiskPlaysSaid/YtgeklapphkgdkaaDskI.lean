import Derived.Test.YtgeklapphkgdkaaDskH
import Derived.WalkSpells
set_option linter.unusedVariables false
set_option linter.unusedSimpArgs false
namespace Go.Proofs.Ytgeklapphkgdkaa.Dsk
open Go.RowKit Go.Maps

theorem Try.infoInt : (Try.prog.info? 3).map (fun i => (i.zero, i.size, i.bytes)) = some (some (.int .i64 0), 1, 8) := by kernel_rfl
theorem own_empty (w : World) (e : TypeId) : (w.alloc (.cells #[] e)).ownsRow w.heap.size e 1 (.slice (some ⟨w.heap.size, 0, none⟩) 0 0) 0 [] :=
  ⟨rfl, .inr ⟨w.heap.size, 0, #[], rfl, Nat.le_refl _, heap_alloc_new w _, Nat.le_refl _, by unfold maxLen; omega, rfl, rfl⟩⟩
theorem Rd.below {w W : World} {k : IntKind} {A : Option Addr} {n c : Nat} {xs : List Int} (h : Rd w k A n c xs) (hb : Below w.heap.size w W) : Rd W k A n c xs :=
  h.kept (S := fun _ => False) (Fr.of_below hb) (fun _ _ _ h => h)

def CloneP (e : TypeId) (k : IntKind) (n : Nat) (xs : List Int) (w : World) (en : Ending) (w' : World) : Prop :=
  ∃ A' c', en = .returned (.slice A' n c') ∧ w'.ownsRow w.heap.size e 1 (.slice A' n c') n (nums k xs) ∧ Below w.heap.size w w'

set_option maxHeartbeats 1000000 in
set_option maxRecDepth 100000 in
theorem clone_u8 (w : World) (A : Option Addr) (n c : Nat) (xs : List Int) (h : Rd w .u8 A n c xs) (hl : n * 1 ≤ 140737488355328) : Calls Try.prog 31 #[.slice A n c] w (CloneP 5 .u8 n xs w) := by
  cases A with
  | none =>
    obtain ⟨rfl, rfl⟩ := h.nil rfl
    have hx : xs = [] := List.eq_nil_of_length_eq_zero h.len
    subst hx
    have he : ∀ w, (binOp .eql 26 (.slice none 0 0) (.slice none 0 0)).run Try.prog w = .ok (.bool true) w := fun w => Lib.run_eql_slice_nil w 26 5 none 0 0 0 0 Try.underlying26
    go_enter Try.func31, Try.ntmps31
    go_wp2
    go_ret
    exact ⟨none, 0, rfl, World.ownsRow_nil _ _ _ _, Below.refl _ _⟩
  | some ad =>
    have he : ∀ w, (binOp .eql 26 (.slice (some ad) n c) (.slice none 0 0)).run Try.prog w = .ok (.bool false) w := fun w => Lib.run_eql_slice_nil w 26 5 (some ad) n c 0 0 Try.underlying26
    have H := Kp.mk h
    clear h
    go_enter Try.func31, Try.ntmps31
    go_wp2_with (at_builtin; refine wpList_append_rd _ rfl (.tmp 5) (.tmp 6) 26 5 .u8 1 w.heap.size rfl Try.underlying26 Try.infoU8 (by decide) (.slice (some ⟨w.heap.size, 0, none⟩) 0 0) 0 n c [] xs (some ad) rfl rfl (own_empty w 5) (H.out.below (alloc_below w _)) (by omega) (by simp) ?_; intro A' c' w2 hown2 hg2 hat2; simp only [Nat.zero_add, List.nil_append] at hown2 hat2 ⊢; have Hown2 := Kp.mk hown2; have Hg2 := Kp.mk hg2; clear hown2 hg2 hat2)
    go_ret
    exact ⟨A', c', rfl, Hown2.out, (alloc_below w _).grown Hg2.out (by simp) (fun k e => by simp [Value.ownBlock] at e; omega)⟩
set_option maxHeartbeats 1000000 in
set_option maxRecDepth 100000 in
theorem clone_int (w : World) (A : Option Addr) (n c : Nat) (xs : List Int) (h : Rd w .i64 A n c xs) (hl : n * 8 ≤ 140737488355328) : Calls Try.prog 29 #[.slice A n c] w (CloneP 3 .i64 n xs w) := by
  cases A with
  | none =>
    obtain ⟨rfl, rfl⟩ := h.nil rfl
    have hx : xs = [] := List.eq_nil_of_length_eq_zero h.len
    subst hx
    have he : ∀ w, (binOp .eql 32 (.slice none 0 0) (.slice none 0 0)).run Try.prog w = .ok (.bool true) w := fun w => Lib.run_eql_slice_nil w 32 3 none 0 0 0 0 Try.underlying32
    go_enter Try.func29, Try.ntmps29
    go_wp2
    go_ret
    exact ⟨none, 0, rfl, World.ownsRow_nil _ _ _ _, Below.refl _ _⟩
  | some ad =>
    have he : ∀ w, (binOp .eql 32 (.slice (some ad) n c) (.slice none 0 0)).run Try.prog w = .ok (.bool false) w := fun w => Lib.run_eql_slice_nil w 32 3 (some ad) n c 0 0 Try.underlying32
    have H := Kp.mk h
    clear h
    go_enter Try.func29, Try.ntmps29
    go_wp2_with (at_builtin; refine wpList_append_rd _ rfl (.tmp 5) (.tmp 6) 32 3 .i64 8 w.heap.size rfl Try.underlying32 Try.infoInt (by decide) (.slice (some ⟨w.heap.size, 0, none⟩) 0 0) 0 n c [] xs (some ad) rfl rfl (own_empty w 3) (H.out.below (alloc_below w _)) (by omega) (by simp) ?_; intro A' c' w2 hown2 hg2 hat2; simp only [Nat.zero_add, List.nil_append] at hown2 hat2 ⊢; have Hown2 := Kp.mk hown2; have Hg2 := Kp.mk hg2; clear hown2 hg2 hat2)
    go_ret
    exact ⟨A', c', rfl, Hown2.out, (alloc_below w _).grown Hg2.out (by simp) (fun k e => by simp [Value.ownBlock] at e; omega)⟩
end Go.Proofs.Ytgeklapphkgdkaa.Dsk
