import Derived.Test.YtgeklapphkgdkaaDsRw
import Derived.Test.YtgeklapphkgdkaaDsRt
import Derived.Test.YtgeklapphkgdkaaDsRr
import Derived.Test.YtgeklapphkgdkaaDskT
import Derived.Test.YtgeklapphkgdkaaDskV
set_option linter.unusedVariables false
set_option linter.unusedSimpArgs false
namespace Go.Proofs.Ytgeklapphkgdkaa.Dsk
open Go.RowKit Go.Maps Go.Sort Go.Shelf

/-! ### Both disks beside each other -/
def Half (w : World) (B B' g g' : Nat) (σ σ' : DS) (S S' : Nat → Prop) : Prop :=
  IsDisk w B g σ' S ∧ IsR w B' g' σ S' ∧ (∀ k, S k → ¬ S' k ∧ k < w.heap.size) ∧ (∀ k, S' k → k < w.heap.size) ∧ B ≤ w.heap.size ∧ (0 ≤ σ.room ∧ σ.room ≤ 9223372036854775807) ∧ σ'.room = σ.room
abbrev Two (w : World) (B B' g g' : Nat) (σ : DS) (S S' : Nat → Prop) : Prop := Half w B B' g g' σ σ S S'
theorem IsR.kept {w W : World} {B g : Nat} {σ : DS} {S S2 : Nat → Prop} (h : IsR w B g σ S) (hf : Fr w W S2) (hd : ∀ k, S k → ¬ S2 k) : IsR W B g σ S := by
  obtain ⟨room, v, A, c, ps, hr⟩ := h
  exact ⟨room, v, A, c, ps, hr.kept hf hd⟩
theorem IsR.below {w W : World} {B g : Nat} {σ : DS} {S : Nat → Prop} (h : IsR w B g σ S) (hb : Below w.heap.size w W) : IsR W B g σ S :=
  h.kept (Fr.of_below (S := fun _ => False) hb) (fun _ _ h => h)
theorem IsR.mono {w : World} {B g : Nat} {σ : DS} {S S2 : Nat → Prop} (h : IsR w B g σ S) (hs : ∀ k, k < w.heap.size → S k → S2 k) : IsR w B g σ S2 := by
  obtain ⟨room, v, A, c, ps, hr⟩ := h
  exact ⟨room, v, A, c, ps, hr.mono hs⟩
theorem IsR.srt {w : World} {B g : Nat} {σ : DS} {S : Nat → Prop} (h : IsR w B g σ S) : Srt σ.files := by
  obtain ⟨room, v, A, c, ps, hr⟩ := h
  exact hr.srt
theorem IsR.most {w : World} {B g : Nat} {σ : DS} {S : Nat → Prop} (h : IsR w B g σ S) : σ.files.length ≤ 1000 := by
  obtain ⟨room, v, A, c, ps, hr⟩ := h
  rw [← hr.abs, List.length_map]
  exact hr.most
theorem Half.below {w W : World} {B B' g g' : Nat} {σ σ' : DS} {S S' : Nat → Prop} (h : Half w B B' g g' σ σ' S S') (hb : Below w.heap.size w W) : Half W B B' g g' σ σ' S S' :=
  ⟨h.1.below hb, h.2.1.below hb, fun k hk => ⟨(h.2.2.1 k hk).1, Nat.lt_of_lt_of_le (h.2.2.1 k hk).2 hb.size⟩, fun k hk => Nat.lt_of_lt_of_le (h.2.2.2.1 k hk) hb.size, Nat.le_trans h.2.2.2.2.1 hb.size, h.2.2.2.2.2.1, h.2.2.2.2.2.2⟩
theorem Half.fr {w W : World} {B B' g g' : Nat} {σ σ' : DS} {S S' F : Nat → Prop} (h : Half w B B' g g' σ σ' S S') (hf : Fr w W F) (hd : ∀ k, F k → ¬ S k ∧ ¬ S' k) : Half W B B' g g' σ σ' S S' :=
  ⟨h.1.kept hf (fun k hk h => (hd k h).1 hk), h.2.1.kept hf (fun k hk h => (hd k h).2 hk), fun k hk => ⟨(h.2.2.1 k hk).1, Nat.lt_of_lt_of_le (h.2.2.1 k hk).2 hf.size⟩, fun k hk => Nat.lt_of_lt_of_le (h.2.2.2.1 k hk) hf.size, Nat.le_trans h.2.2.2.2.1 hf.size, h.2.2.2.2.2.1, h.2.2.2.2.2.2⟩
theorem half_of {w W : World} {B B' g g' : Nat} {σ σ' : DS} {S S' : Nat → Prop} (h : Two w B B' g g' σ S S') (hp : Post B g S σ' w W) (hr : σ'.room = σ.room) : Half W B B' g g' σ σ' (fun k => (S k ∨ w.heap.size ≤ k) ∧ k < W.heap.size) S' := by
  obtain ⟨h1, h2, h3, h4, h5, h6, _⟩ := h
  refine ⟨hp.1.mono (fun k hk h => ⟨h, hk⟩), h2.kept hp.2 (fun k hk hS => (h3 k hS).1 hk), fun k hk => ⟨fun hS' => ?_, hk.2⟩, fun k hk => Nat.lt_of_lt_of_le (h4 k hk) hp.2.size, Nat.le_trans h5 hp.2.size, h6, hr⟩
  rcases hk.1 with h | h
  · exact (h3 k h).1 hS'
  · have := h4 k hS'; omega
theorem two_of {w W : World} {B B' g g' : Nat} {σ σ' : DS} {S S' : Nat → Prop} (h : Half w B B' g g' σ σ' S S') (hp : PostR B' g' S' σ' w W) : Two W B B' g g' σ' S (fun k => (S' k ∨ w.heap.size ≤ k) ∧ k < W.heap.size) := by
  obtain ⟨h1, h2, h3, h4, h5, h6, h7⟩ := h
  refine ⟨h1.kept hp.2 (fun k hk hS => (h3 k hk).1 hS), hp.1.mono (fun k hk h => ⟨h, hk⟩), fun k hk => ⟨fun hS' => ?_, Nat.lt_of_lt_of_le (h3 k hk).2 hp.2.size⟩, fun k hk => hk.2, Nat.le_trans h5 hp.2.size, by rw [h7]; exact h6, rfl⟩
  rcases hS'.1 with h | h
  · exact (h3 k hk).1 h
  · have := (h3 k hk).2; omega
/-- What a call of both leaves. -/
def Post2 (B B' g g' : Nat) (S S' : Nat → Prop) (w w' : World) : Prop :=
  ∃ σ' T T', Two w' B B' g g' σ' T T' ∧ (∀ k, T k ∨ T' k → (S k ∨ S' k) ∨ w.heap.size ≤ k) ∧ Fr w w' (fun k => S k ∨ S' k)
theorem post2_of {w w1 wb w2 : World} {B B' g g' : Nat} {σ σ' : DS} {S S' : Nat → Prop} (h : Two w B B' g g' σ S S') (hp : Post B g S σ' w w1) (hr : σ'.room = σ.room) (hb : Below w1.heap.size w1 wb) (hp2 : PostR B' g' S' σ' wb w2) : Post2 B B' g g' S S' w w2 := by
  have hh := (half_of h hp hr).below hb
  refine ⟨σ', _, _, two_of hh hp2, fun k hk => ?_, ?_⟩
  · rcases hk with hk | hk
    · rcases hk.1 with hk | hk
      · exact .inl (.inl hk)
      · exact .inr hk
    · rcases hk.1 with hk | hk
      · exact .inl (.inr hk)
      · exact .inr (Nat.le_trans hp.2.size (Nat.le_trans hb.size hk))
  · exact ((hp.2.mono (S2 := fun k => S k ∨ S' k) (fun k _ h => .inl h)).below hb).trans hp2.2 (fun k hk => .inl (.inr hk))
theorem Post2.after {w w1 w2 : World} {B B' g g' : Nat} {S S' : Nat → Prop} (hb : Below w.heap.size w w1) (h : Post2 B B' g g' S S' w1 w2) : Post2 B B' g g' S S' w w2 := by
  obtain ⟨σ', T, T', h1, h2, h3⟩ := h
  exact ⟨σ', T, T', h1, fun k hk => (h2 k hk).imp id (fun h => Nat.le_trans hb.size h), (Fr.of_below hb).trans h3 (fun k hk => .inl hk)⟩
theorem Post2.then {w w1 w2 : World} {B B' g g' : Nat} {S S' : Nat → Prop} (h : Post2 B B' g g' S S' w w1) (hb : Below w1.heap.size w1 w2) : Post2 B B' g g' S S' w w2 := by
  obtain ⟨σ', T, T', h1, h2, h3⟩ := h
  exact ⟨σ', T, T', h1.below hb, h2, h3.below hb⟩
theorem begin_room (σ : DS) (ok : Bool) : (σ.begin ok).2.room = σ.room := by
  unfold DS.begin
  split
  · rfl
  · split <;> rfl
theorem size_room (σ : DS) (nm : ByteArray) : (σ.size nm).2.1.room = σ.room := by
  have := begin_room σ (nameOk nm)
  unfold DS.size
  simp only
  split
  · split <;> exact this
  · exact this
theorem append_room (σ : DS) (nm : ByteArray) (b : List Int) : (σ.append nm b).2.room = σ.room := by
  have := begin_room σ (nameOk nm)
  unfold DS.append
  simp only
  split
  · split
    · split
      · exact this
      · split <;> exact this
    · split
      · exact this
      · split <;> exact this
  · exact this
theorem sync_room (σ : DS) (nm : ByteArray) : (σ.sync nm).2.room = σ.room := by
  have := begin_room σ (nameOk nm)
  unfold DS.sync
  simp only
  split
  · split <;> exact this
  · exact this
theorem remove_room (σ : DS) (nm : ByteArray) : (σ.remove nm).2.room = σ.room := by
  have := begin_room σ (nameOk nm)
  unfold DS.remove
  simp only
  split
  · split <;> exact this
  · exact this
theorem rename_room (σ : DS) (a b : ByteArray) : (σ.rename a b).2.room = σ.room := by
  have := begin_room σ (nameOk a && nameOk b)
  unfold DS.rename
  simp only
  split
  · split
    · exact this
    · split <;> exact this
  · exact this
theorem read_room (σ : DS) (nm : ByteArray) (a n : Int) : (σ.read nm a n).2.1.room = σ.room := by
  have := begin_room σ (nameOk nm)
  unfold DS.read
  simp only
  split
  · split
    · exact this
    · split <;> exact this
  · exact this
theorem list_any2 (w : World) (B g : Nat) (σ : DS) (S : Nat → Prop) (h : IsDisk w B g σ S) (hs : Srt σ.files) : Calls Try.prog 21 #[.pointer (some ⟨g, 0, none⟩)] w
    fun e w' => ∃ A' c', e = .returned (.slice A' σ.files.length c') ∧ w'.ownsRow w.heap.size 9 1 (.slice A' σ.files.length c') σ.files.length ((namesOf σ.files).map encStr) ∧ Below w.heap.size w w' := by
  refine (list_any w B g σ S h).mono fun e w' hp => ?_
  obtain ⟨v, ss, rfl, hperm, hrow, hb⟩ := hp
  rw [sorted_names hs hperm] at hrow
  have hl : ss.length = σ.files.length := by have := hperm.length_eq; simpa using this
  rw [hl] at hrow
  obtain ⟨A, c, rfl⟩ := row_slice hrow
  exact ⟨A, c, rfl, hrow, hb⟩
end Go.Proofs.Ytgeklapphkgdkaa.Dsk
