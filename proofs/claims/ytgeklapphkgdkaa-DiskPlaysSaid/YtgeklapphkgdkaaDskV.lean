import Derived.Test.YtgeklapphkgdkaaDskU
set_option linter.unusedVariables false
set_option linter.unusedSimpArgs false
namespace Go.Proofs.Ytgeklapphkgdkaa.Dsk
open Go.RowKit Go.Maps

def DS.size (σ : DS) (nm : ByteArray) : Int × DS × Nat :=
  let r := σ.begin (nameOk nm)
  if r.1 = 0 then
    match lookA nm.data.toList r.2.files with
    | none => (8, r.2, 0)
    | some f => (0, r.2, f.1.length)
  else (r.1, r.2, 0)

set_option maxHeartbeats 2000000 in
set_option maxRecDepth 100000 in
theorem size_any (w : World) (B g : Nat) (σ : DS) (S : Nat → Prop) (nm : ByteArray) (h : IsDisk w B g σ S) (hs : nm.size ≤ 100000) :
    Calls Try.prog 23 #[.pointer (some ⟨g, 0, none⟩), .string nm] w fun e w' => e = .returned (.tuple #[.int .i64 (σ.size nm).2.2, .int .i64 (σ.size nm).1]) ∧ Post B g S (σ.size nm).2.1 w w' := by
  have Ho := Kp.mk (open1 w B g σ S nm h hs)
  have HS := Kp.mk h.gS
  have Hg := Kp.mk h.lt
  clear h
  go_enter Try.func23, Try.ntmps23
  go_wp2_with fail
  refine Ho.out.mono ?_
  rintro e w1 ⟨hf, L, mb, A, c, hd, hcase⟩
  have HF := Kp.mk (fr_g (alloc_below w _) hf HS.out)
  rcases hcase with ⟨he, rfl⟩ | ⟨he, ⟨hn, rfl⟩ | ⟨x, hx, rfl⟩⟩
  · have Hr : Kp (σ.size nm = ((σ.begin (nameOk nm)).1, (σ.begin (nameOk nm)).2, 0)) := ⟨by unfold DS.size; simp only; rw [if_neg he]⟩
    have hb : (((σ.begin (nameOk nm)).1) != 0) = true := by simpa using he
    have HD := Kp.mk hd
    clear hd hf Ho he
    generalize (σ.begin (nameOk nm)) = r at *
    obtain ⟨e0, σ1⟩ := r
    simp only at hb HD
    go_wp2
    go_ret2
    rw [Hr.out]
    exact ⟨rfl, IsDisk.wide ⟨L, mb, A, c, HD.out⟩ _, HF.out⟩
  · have Hr : Kp (σ.size nm = (8, (σ.begin (nameOk nm)).2, 0)) := ⟨by unfold DS.size; simp only; rw [if_pos he, hd.look, hn]; rfl⟩
    have HD := Kp.mk hd
    clear hd hf Ho he hn
    go_wp2
    go_ret2
    rw [Hr.out]
    exact ⟨rfl, IsDisk.wide ⟨L, mb, A, c, HD.out⟩ _, HF.out⟩
  · have hm := mem_find hx
    have hfile := hd.file x hm.1
    obtain ⟨Ar, cr, hrow⟩ := row_slice hfile.2.1
    have b0 := cells_top hfile.1 0 _ rfl
    rw [hrow] at b0
    have Hr : Kp (σ.size nm = (0, (σ.begin (nameOk nm)).2, x.b.length)) := ⟨by unfold DS.size; simp only; rw [if_pos he, hd.look, hx]; rfl⟩
    have HD := Kp.mk hd
    clear hd hf Ho he hx hm hfile hrow
    go_wp2
    go_ret2
    rw [Hr.out]
    exact ⟨rfl, IsDisk.wide ⟨L, mb, A, c, HD.out⟩ _, HF.out⟩
theorem Dk.size {w : World} {B g : Nat} {σ : DS} {nm : ByteArray} (h : Dk w B g σ) (hs : nm.size ≤ 100000) (hBw : B ≤ w.heap.size) :
    Calls Try.prog 23 #[.pointer (some ⟨g, 0, none⟩), .string nm] w fun e w' => e = .returned (.tuple #[.int .i64 (σ.size nm).2.2, .int .i64 (σ.size nm).1]) ∧ Dk w' B g (σ.size nm).2.1 ∧ Below B w w' := by
  refine (size_any w B g σ _ nm h hs).mono ?_
  rintro e w' ⟨he, hp⟩
  exact ⟨he, Dk.next (fun k h => h.1) hBw hp, hp.2.toBelow (fun k h => h.1) hBw⟩

/-- The list of a disk with one file. -/
theorem list_one {w : World} {B g : Nat} {σ : DS} {S : Nat → Prop} {nm : List UInt8} {v : List Int × Nat} (h : IsDisk w B g σ S) (hn : σ.files = [(nm, v)]) :
    Calls Try.prog 21 #[.pointer (some ⟨g, 0, none⟩)] w fun e w' => ∃ q c, e = .returned (.slice (some ⟨q, 0, none⟩) 1 c) ∧ w'.cell? ⟨q, 0, none⟩ = some (.string ⟨nm.toArray⟩) ∧ Below w.heap.size w w' := by
  refine (list_any w B g σ S h).mono ?_
  rintro e w' ⟨v, ss, rfl, hp, hrow, hb⟩
  rw [hn] at hp
  have hss : ss = [nm] := List.perm_singleton.1 hp
  subst hss
  rcases hrow.2 with ⟨e1, e2⟩ | ⟨q, cap, cur, e1, hB, hh, h3, h4, h5, h6⟩
  · simp at e2
  · subst e1
    refine ⟨_, _, rfl, ?_, hb⟩
    have := hrow.cells (g := q) rfl 0 (.string ⟨nm.toArray⟩) (by simp [List.mergeSort])
    exact this
end Go.Proofs.Ytgeklapphkgdkaa.Dsk
