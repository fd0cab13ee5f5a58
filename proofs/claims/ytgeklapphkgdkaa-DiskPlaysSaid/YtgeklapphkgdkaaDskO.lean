import Derived.Test.YtgeklapphkgdkaaDskN
set_option linter.unusedVariables false
set_option linter.unusedSimpArgs false
namespace Go.Proofs.Ytgeklapphkgdkaa.Dsk
open Go.RowKit Go.Maps

theorem IsDisk.uniq {w : World} {B g : Nat} {σ : DS} {S : Nat → Prop} (h : IsDisk w B g σ S) : Uniq σ.files := by obtain ⟨L, mb, A, c, h⟩ := h; exact h.uniq
theorem look_used (nm : List UInt8) : ∀ (fs : AF) (f : List Int × Nat), lookA nm fs = some f → (f.1.length : Int) ≤ used fs
  | [], _, h => by cases h
  | y :: r, f, h => by
    unfold lookA at h
    have hr := used_nonneg r
    split at h
    · cases h; simp only [used]; omega
    · have := look_used nm r f h; simp only [used]; omega
theorem length_setA (nm : List UInt8) (v : List Int × Nat) (fs : AF) : (setA nm v fs).length = fs.length := by simp [setA]
theorem length_insA (nm : List UInt8) (v : List Int × Nat) : ∀ fs : AF, (insA nm v fs).length = fs.length + 1
  | [] => rfl
  | y :: r => by
    unfold insA
    split
    · rfl
    · simp [length_insA nm v r]
/-- The law 'DiskRoom': what stands behind some rounds. -/
def Rm (σ : DS) (room u : Int) (k : Nat) : Prop := σ.room = room ∧ σ.fails = [] ∧ used σ.files = u ∧ σ.files.length ≤ k
theorem rm_step {σ : DS} {room u : Int} {k : Nat} (h : Rm σ room u k) (hu : Uniq σ.files) (hk : k < 1000) (hr : room ≤ 500) (hur : u ≤ room) {nm : ByteArray} (hn : nameOk nm = true) {b : List Int} (hb : b.length ≤ 200) :
    (u + b.length ≤ room → (σ.append nm b).1 = 0 ∧ Rm (σ.append nm b).2 room (u + b.length) (k + 1)) ∧ (¬ u + b.length ≤ room → (σ.append nm b).1 = 7 ∧ Rm (σ.append nm b).2 room u (k + 1)) := by
  obtain ⟨h1, h2, h3, h4⟩ := h
  have hc : Cool σ := h2
  have hbeg := begin_ok hc hn
  cases hl : lookA nm.data.toList σ.files with
  | none =>
    have e := append_none b hbeg hl
    rw [if_neg (by omega)] at e
    constructor
    · intro hle
      rw [if_neg (by rw [h1, h3]; omega)] at e
      rw [e]
      exact ⟨rfl, h1, h2, by simp only [used_ins, h3], by simp only [length_insA]; omega⟩
    · intro hle
      rw [if_pos (by rw [h1, h3]; omega)] at e
      rw [e]
      exact ⟨rfl, h1, h2, h3, by simp only; omega⟩
  | some f =>
    have hf := look_used _ _ _ hl
    have e := append_some b hbeg hl
    rw [if_neg (by omega)] at e
    constructor
    · intro hle
      rw [if_neg (by rw [h1, h3]; omega)] at e
      rw [e]
      refine ⟨rfl, h1, h2, ?_, by simp only [length_setA]; omega⟩
      simp only
      rw [used_set _ _ _ _ hu hl, h3]
      simp only [List.length_append]; omega
    · intro hle
      rw [if_pos (by rw [h1, h3]; omega)] at e
      rw [e]
      exact ⟨rfl, h1, h2, h3, by simp only; omega⟩
def abc : ByteArray := ⟨#[97, 98, 99]⟩
theorem abc_ok (r : Nat) (hr : r < 3) : nameOk (ByteArray.extract ⟨#[97, 98, 99]⟩ r (r + 1)) = true ∧ (ByteArray.extract ⟨#[97, 98, 99]⟩ r (r + 1)).size ≤ 100000 := by
  match r, hr with
  | 0, _ => exact ⟨rfl, by decide⟩
  | 1, _ => exact ⟨rfl, by decide⟩
  | 2, _ => exact ⟨rfl, by decide⟩
end Go.Proofs.Ytgeklapphkgdkaa.Dsk
