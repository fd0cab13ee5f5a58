import Derived.Test.YtgeklapphkgdkaaDsRp
set_option linter.unusedVariables false
set_option linter.unusedSimpArgs false
namespace Go.Proofs.Ytgeklapphkgdkaa.Dsk
open Go.RowKit Go.Maps

/-! ### The reference's disk: a new one -/
theorem rd_new (w : World) (room : Int) (W : World) (hW : W = w.alloc (.cells #[.int .i64 room, .slice none 0 0, .slice none 0 0, .int .i64 0] 75)) :
    RD W w.heap.size w.heap.size ⟨max 0 room, [], [], 0⟩ (fun k => w.heap.size ≤ k ∧ k < w.heap.size + 1) room (.slice none 0 0) none 0 [] := by
  subst hW
  exact ⟨rfl, heap_alloc_new w _, ⟨rfl, .inl ⟨rfl, rfl⟩⟩, (fun p hp => by cases hp), (fun p hp => by cases hp), nil_rd _ _, Nat.le_refl _, (fun ad e => by cases e), Nat.le_refl _, ⟨Nat.le_refl _, by omega⟩, (fun q e => by cases e), rfl, List.Pairwise.nil, by simp⟩
set_option maxHeartbeats 2000000 in
theorem r_new (w : World) (room : Int) : Calls Try.prog 25 #[.int .i64 room] w fun e w' => e = .returned (.pointer (some ⟨w.heap.size, 0, none⟩)) ∧ IsR w' w.heap.size w.heap.size ⟨max 0 room, [], [], 0⟩ (fun k => w.heap.size ≤ k ∧ k < w.heap.size + 1) ∧ Below w.heap.size w w' ∧ w'.heap.size = w.heap.size + 1 := by
  go_enter Try.func25, Try.ntmps25
  go_wp2
  go_ret
  exact ⟨rfl, ⟨_, _, _, _, _, rd_new w room _ rfl⟩, (Below.refl _ _).alloc (Nat.le_refl _) _, by simp⟩
end Go.Proofs.Ytgeklapphkgdkaa.Dsk
