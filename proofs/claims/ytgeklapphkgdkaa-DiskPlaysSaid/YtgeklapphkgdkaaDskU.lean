import Derived.Test.YtgeklapphkgdkaaDskT
set_option linter.unusedVariables false
set_option linter.unusedSimpArgs false
namespace Go.Proofs.Ytgeklapphkgdkaa.Dsk
open Go.RowKit Go.Maps

theorem Dk.rename {w : World} {B g : Nat} {σ : DS} {a b : ByteArray} (h : Dk w B g σ) (ha : a.size ≤ 100000) (hb : b.size ≤ 100000) (hBw : B ≤ w.heap.size) :
    Calls Try.prog 20 #[.pointer (some ⟨g, 0, none⟩), .string a, .string b] w fun e w' => e = .returned (.int .i64 (σ.rename a b).1) ∧ Dk w' B g (σ.rename a b).2 ∧ Below B w w' := by
  refine (rename_any w B g σ _ a b h ha hb).mono ?_
  rintro e w' ⟨he, hp⟩
  exact ⟨he, Dk.next (fun k h => h.1) hBw hp, hp.2.toBelow (fun k h => h.1) hBw⟩
abbrev nNew : List UInt8 := [110, 101, 119]
abbrev nOld : List UInt8 := [111, 108, 100]
theorem sw1 (a : List Int) (ha : a.length ≤ 100) : (⟨max 0 10000, [], [], 0⟩ : DS).append ⟨#[111, 108, 100]⟩ a = (0, ⟨10000, [(nOld, a, 0)], [], 0⟩) :=
  append_new (σ := ⟨10000, [], [], 0⟩) rfl rfl rfl (by omega) (by simp) (by simp only [used]; omega)
theorem sw2 (a : List Int) : (⟨10000, [(nOld, a, 0)], [], 0⟩ : DS).sync ⟨#[111, 108, 100]⟩ = (0, ⟨10000, [(nOld, a, a.length)], [], 0⟩) :=
  sync_old (σ := ⟨10000, [(nOld, a, 0)], [], 0⟩) (f := (a, 0)) rfl rfl rfl
theorem sw3 (a b : List Int) (ha : a.length ≤ 100) (hb : b.length ≤ 100) : (⟨10000, [(nOld, a, a.length)], [], 0⟩ : DS).append ⟨#[110, 101, 119]⟩ b = (0, ⟨10000, [(nNew, b, 0), (nOld, a, a.length)], [], 0⟩) :=
  append_new (σ := ⟨10000, [(nOld, a, a.length)], [], 0⟩) rfl rfl rfl (by omega) (by simp) (by simp only [used]; omega)
theorem sw4 (a b : List Int) : (⟨10000, [(nNew, b, 0), (nOld, a, a.length)], [], 0⟩ : DS).sync ⟨#[110, 101, 119]⟩ = (0, ⟨10000, [(nNew, b, b.length), (nOld, a, a.length)], [], 0⟩) :=
  sync_old (σ := ⟨10000, [(nNew, b, 0), (nOld, a, a.length)], [], 0⟩) (f := (b, 0)) rfl rfl rfl
theorem sw5 (a b c : List Int) (ha : a.length ≤ 100) (hb : b.length ≤ 100) (hc : c.length ≤ 100) : (⟨10000, [(nNew, b, b.length), (nOld, a, a.length)], [], 0⟩ : DS).append ⟨#[110, 101, 119]⟩ c = (0, ⟨10000, [(nNew, b ++ c, b.length), (nOld, a, a.length)], [], 0⟩) :=
  append_old (σ := ⟨10000, [(nNew, b, b.length), (nOld, a, a.length)], [], 0⟩) (f := (b, b.length)) rfl rfl rfl (by simp only; omega) (by simp only [used]; omega)
theorem sw6 (a x : List Int) (m n : Nat) : (⟨10000, [(nNew, x, m), (nOld, a, n)], [], 0⟩ : DS).rename ⟨#[110, 101, 119]⟩ ⟨#[111, 108, 100]⟩ = (0, ⟨10000, [(nOld, x, m)], [], 0⟩) := by
  unfold DS.rename
  simp only
  rw [begin_cool (σ := ⟨10000, [(nNew, x, m), (nOld, a, n)], [], 0⟩) rfl]
  rfl
theorem sw7 (b c : List Int) (keep : Int) : (⟨10000, [(nOld, b ++ c, b.length)], [], 0⟩ : DS).crash keep = ⟨10000, [(nOld, b ++ c.take (min keep.toNat c.length), b.length + min keep.toNat c.length)], [], 0⟩ := by
  simp only [DS.crash, List.map_cons, List.map_nil, crash_ab keep b c]
theorem sw_read (x : List Int) (m : Nat) (hx : x.length ≤ 1000) : (⟨10000, [(nOld, x, m)], [], 0⟩ : DS).read ⟨#[111, 108, 100]⟩ 0 1000 = (0, ⟨10000, [(nOld, x, m)], [], 0⟩, x) :=
  read_old (σ := ⟨10000, [(nOld, x, m)], [], 0⟩) (f := (x, m)) rfl rfl rfl hx
/-- The list of a disk: how long it is. -/
theorem list_len {w : World} {B g : Nat} {σ : DS} {S : Nat → Prop} (h : IsDisk w B g σ S) (hn : σ.files.length = 1) : Calls Try.prog 21 #[.pointer (some ⟨g, 0, none⟩)] w fun e w' => ∃ A c, e = .returned (.slice A 1 c) ∧ Below w.heap.size w w' := by
  refine (list_any w B g σ S h).mono ?_
  rintro e w' ⟨v, ss, rfl, hp, hrow, hb⟩
  obtain ⟨A, c, rfl⟩ := row_slice hrow
  have : ss.length = 1 := by rw [hp.length_eq, List.length_map, hn]
  rw [this]
  exact ⟨A, c, rfl, hb⟩
end Go.Proofs.Ytgeklapphkgdkaa.Dsk
