import Derived.Test.YtgeklapphkgdkaaDskR
import Derived.Test.YtgeklapphkgdkaaIter
set_option linter.unusedVariables false
set_option linter.unusedSimpArgs false
namespace Go.Proofs.Ytgeklapphkgdkaa.Dsk
open Go.RowKit Go.Maps Go.Sort Go.Shelf

def leB (x y : List UInt8) : Bool := decide (x ≤ y)
def ListP (σ : DS) (w : World) (e : Ending) (w' : World) : Prop :=
  ∃ (v : Value) (ss : List (List UInt8)), e = .returned v ∧ ss.Perm (σ.files.map (·.1)) ∧ w'.ownsRow w.heap.size 9 1 v ss.length ((ss.mergeSort (fun x y => decide (x ≤ y))).map encStr) ∧ Below w.heap.size w w'
theorem row_base {w : World} {B B' e n : Nat} {v : Value} {xs : List Value} (h : w.ownsRow B e 1 v n xs) (hB : B' ≤ B) : w.ownsRow B' e 1 v n xs := by
  obtain ⟨h1, h2⟩ := h
  refine ⟨h1, ?_⟩
  rcases h2 with h2 | ⟨g, cap, cur, hv, hg, r⟩
  · exact .inl h2
  · exact .inr ⟨g, cap, cur, hv, Nat.le_trans hB hg, r⟩

set_option maxHeartbeats 1000000 in
theorem list_any (w : World) (B g : Nat) (σ : DS) (S : Nat → Prop) (h : IsDisk w B g σ S) : Calls Try.prog 21 #[.pointer (some ⟨g, 0, none⟩)] w (ListP σ w) := by
  obtain ⟨L, mb, A, c, hd⟩ := h
  have c1 := cells_top hd.top 1 _ rfl
  have hk : Kp (strKeys (DataW.map (L.map FE.ent)) = σ.files.map (·.1)) := ⟨by rw [← hd.abs]; simp only [strKeys, List.map_map]; rfl⟩
  have hsz : Maps.size (DataW.map (L.map FE.ent)) = L.length := by simp [Maps.size]
  have hm := hd.most
  have h63 : L.length ≤ 2^63 - 1 := by omega
  have hby : Maps.size (DataW.map (L.map FE.ent)) ≤ L.length := by rw [hsz]; omega
  have Hs := Kp.mk ((callsIn_wide (n := 5)).1 (Iter.slices_Sorted_keys_33_34 mb L.length (DataW.map (L.map FE.ent)) ptrE w hd.own (by rw [hsz]; exact Nat.le_trans (by omega : L.length ≤ 2^60) (by decide)) (by rw [hsz]; omega)))
  clear hsz hd
  go_enter Try.func21, Try.ntmps21
  go_wp2_with fail
  refine ((callsIn_wide (n := 5)).1 (Iter.maps_Keys_34 (some mb) w)).mono ?_
  rintro e w1 ⟨rfl, rfl⟩
  go_wp2_with fail
  refine Hs.out.mono ?_
  rintro e w2 ⟨v, ss, rfl, hp, hrow, _, hb⟩
  obtain ⟨A', c', rfl⟩ := row_slice hrow
  have HP := Kp.mk hp
  have Hrow := Kp.mk hrow
  have Hb := Kp.mk hb
  clear hp hrow hb
  go_wp2
  go_ret
  exact ⟨_, ss, rfl, by rw [← hk.out]; exact HP.out, row_base Hrow.out (by simp), (alloc_below w _).trans (Hb.out.mono (by simp))⟩
end Go.Proofs.Ytgeklapphkgdkaa.Dsk
