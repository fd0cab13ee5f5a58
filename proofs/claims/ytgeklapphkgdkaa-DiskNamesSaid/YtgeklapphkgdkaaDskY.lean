import Derived.Test.YtgeklapphkgdkaaDskW
set_option linter.unusedVariables false
set_option linter.unusedSimpArgs false
namespace Go.Proofs.Ytgeklapphkgdkaa.Dsk
open Go.RowKit Go.Maps

/-! ### The law 'DiskNames' -/
theorem append_bad {σ : DS} {nm : ByteArray} (h : Cool σ) (hn : nameOk nm = false) (b : List Int) : σ.append nm b = (6, σ) :=
  append_err b (by rw [begin_cool h, hn]; rfl) (by decide)
theorem sync_bad {σ : DS} {nm : ByteArray} (h : Cool σ) (hn : nameOk nm = false) : σ.sync nm = (6, σ) := by
  unfold DS.sync; rw [begin_cool h, hn]; rfl
theorem size_bad {σ : DS} {nm : ByteArray} (h : Cool σ) (hn : nameOk nm = false) : σ.size nm = (6, σ, 0) := by
  unfold DS.size; rw [begin_cool h, hn]; rfl
theorem rename_bad {σ : DS} {a b : ByteArray} (h : Cool σ) (hn : (nameOk a && nameOk b) = false) : σ.rename a b = (6, σ) := by
  unfold DS.rename; rw [begin_cool h, hn]; rfl
theorem nm1 {n : ByteArray} (hn : nameOk n = true) : (⟨max 0 1000, [], [], 0⟩ : DS).append n [120] = (0, ⟨1000, [(n.data.toList, [120], 0)], [], 0⟩) :=
  append_new (σ := ⟨1000, [], [], 0⟩) rfl hn rfl (by simp) (by simp) (by simp [used])
theorem look1 (n : List UInt8) (v : List Int × Nat) : lookA n [(n, v)] = some v := if_pos rfl
theorem nm2 {n : ByteArray} (hn : nameOk n = true) : (⟨1000, [(n.data.toList, [120], 0)], [], 0⟩ : DS).sync n = (0, ⟨1000, [(n.data.toList, [120], 1)], [], 0⟩) := by
  rw [sync_old (σ := ⟨1000, [(n.data.toList, [120], 0)], [], 0⟩) (f := ([120], 0)) rfl hn (look1 _ _)]
  simp [setA]
theorem nm3 {n : ByteArray} (hn : nameOk n = true) : (⟨1000, [(n.data.toList, [120], 1)], [], 0⟩ : DS).size n = (0, ⟨1000, [(n.data.toList, [120], 1)], [], 0⟩, 1) := by
  unfold DS.size
  rw [begin_ok (σ := ⟨1000, [(n.data.toList, [120], 1)], [], 0⟩) rfl hn]
  simp only
  rw [look1]
  rfl
theorem nm4 {n o : ByteArray} (hn : nameOk n = true) (ho : nameOk o = true) : (⟨1000, [(n.data.toList, [120], 1)], [], 0⟩ : DS).rename n o = (0, ⟨1000, [(o.data.toList, [120], 1)], [], 0⟩) := by
  unfold DS.rename
  rw [begin_cool (σ := ⟨1000, [(n.data.toList, [120], 1)], [], 0⟩) rfl, hn, ho]
  simp only [Bool.and_self, if_true]
  rw [look1]
  by_cases h : n = o
  · subst h; simp
  · have h1 : n.data.toList ≠ o.data.toList := fun e => h (toList_inj e)
    have h2 : (n.data.toList == o.data.toList) = false := by simpa using h1
    simp [h, delA, h2, insA]
/-- An Append of a slice that is not among the disk's blocks. -/
theorem Dk.append2 {w : World} {B g : Nat} {σ : DS} {nm : ByteArray} {o : Obj} {b : List Int} {m cb : Nat} (h : Dk w B g σ) (hs : nm.size ≤ 100000) (hroom : 0 ≤ σ.room ∧ σ.room ≤ 9223372036854775807) (hBw : B ≤ w.heap.size)
    (hb : Rd (w.alloc o) .u8 (some ⟨w.heap.size, 0, none⟩) m cb b) :
    Calls Try.prog 11 #[.pointer (some ⟨g, 0, none⟩), .string nm, .slice (some ⟨w.heap.size, 0, none⟩) m cb] (w.alloc o) fun e w' => e = .returned (.int .i64 (σ.append nm b).1) ∧ Dk w' B g (σ.append nm b).2 ∧ Below B w w' := by
  refine (append_any (w.alloc o) B g σ (fun k => B ≤ k ∧ k < w.heap.size) nm _ m cb b (IsDisk.below h (alloc_below w o)) hs hroom (by simp; omega) hb ?_).mono ?_
  · intro ad e _ hh
    cases e
    have := hh.2
    simp at this
  · rintro e w' ⟨he, hp⟩
    exact ⟨he, Dk.next (fun k h => h.1) (by simp; omega) hp, ((alloc_below w o).mono hBw).trans (hp.2.toBelow (fun k h => h.1) (by simp; omega))⟩
end Go.Proofs.Ytgeklapphkgdkaa.Dsk
