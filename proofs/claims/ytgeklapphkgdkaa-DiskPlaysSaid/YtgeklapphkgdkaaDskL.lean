import Derived.Test.YtgeklapphkgdkaaDskK
import Derived.Lib.SlBytesConst
set_option linter.unusedVariables false
set_option linter.unusedSimpArgs false
namespace Go.Proofs.Ytgeklapphkgdkaa.Dsk
open Go.RowKit Go.Maps

theorem new_disk (w : World) (room : Int) : IsDisk ((w.alloc (.map #[] 0)).alloc (.cells #[.int .i64 room, .map (some w.heap.size), .int .i64 0, .slice none 0 0, .int .i64 0] 59)) w.heap.size (w.heap.size + 1) ⟨room, [], [], 0⟩ (fun k => w.heap.size ≤ k ∧ k < w.heap.size + 2) := by
  refine ⟨[], w.heap.size, none, 0, rfl, heap_alloc2_new w _ _, ?_, by simp, by simp, FailsAt.nil (by omega), by omega, ⟨by omega, by omega⟩, Nat.le_refl _, ⟨Nat.le_refl _, by omega⟩, by simp⟩
  exact (World.ownsMap_made w Try.prog 9 ptrE).alloc _
theorem new_at (w : World) (room : Int) : Calls Try.prog 10 #[.int .i64 room] w fun e w' => e = .returned (.pointer (some ⟨w.heap.size + 1, 0, none⟩)) ∧ IsDisk w' w.heap.size (w.heap.size + 1) ⟨max 0 room, [], [], 0⟩ (fun k => w.heap.size ≤ k ∧ k < w.heap.size + 2) ∧ Below w.heap.size w w' ∧ w'.heap.size = w.heap.size + 2 := by
  refine (new_any room w).mono ?_
  rintro e w' ⟨rfl, rfl⟩
  exact ⟨rfl, new_disk w _, ((Below.refl _ _).alloc (Nat.le_refl _) _).alloc (by simp) _, by simp⟩
theorem rd_string {w : World} {A : Option Addr} {n c : Nat} {xs : List Int} (h : Rd w .u8 A n c xs) : (convert 26 9 (.slice A n c)).run Try.prog w = .ok (.string (strOfNums xs)) w := by
  cases A with
  | none =>
    obtain ⟨rfl, rfl⟩ := h.nil rfl
    have : xs = [] := List.eq_nil_of_length_eq_zero h.len
    subst this
    exact run_convert_bytes_nil w 26 5 Try.underlying26 Try.underlying5 0 0 9 Try.underlying9
  | some ad =>
    rcases Nat.eq_zero_or_pos n with h0 | h0
    · subst h0
      have : xs = [] := List.eq_nil_of_length_eq_zero h.len
      subst this
      rw [run_convert_bytes_string w 26 9 5 _ 0 c Try.underlying26 Try.underlying5 Try.underlying9]
      have hl : (loadCells ad 0).run Try.prog w = .ok (([] : List Int).map (Value.int .u8)).toArray w := by
        have := run_loadCells_list (P := Try.prog) w ad [] (fun j v hj => by simp at hj)
        simpa using this
      rw [run_bytesToString w _ 0 c [] hl]
      rfl
    · obtain ⟨ad', e, hc⟩ := h.cell h0
      cases e
      obtain ⟨b, off, s⟩ := ad
      have hs : s = none := by
        have := hc 0 h0
        cases s with
        | none => rfl
        | some z =>
          exfalso
          unfold Addr.add at this
          simp only at this
          unfold World.cell? at this
          split at this
          · split at this <;> simp_all
          · cases this
      subst hs
      refine run_convert_bytes_arg w 26 5 Try.underlying26 Try.underlying5 b off n c xs h.len (fun i hi => ?_) 9 Try.underlying9
      have := hc i hi
      rwa [Addr.add_lit] at this
theorem own_rd {w : World} {B e n c : Nat} {k : IntKind} {A : Option Addr} {xs : List Int} (h : w.ownsRow B e 1 (.slice A n c) n (nums k xs)) (hn : n ≤ 140737488355328) : Rd w k A n c xs ∧ (∀ ad, A = some ad → ad.spot = none ∧ B ≤ ad.block ∧ ad.block < w.heap.size) := by
  have hl : xs.length = n := by have := h.1; simpa [nums] using this
  rcases h.2 with ⟨e1, e2⟩ | ⟨q, cap, cur, e1, hB, hh, h3, h4, h5, h6⟩
  · injection e1 with e1 e3 e4
    subst e1 e4
    exact ⟨⟨hl, hn, fun _ => ⟨e2, rfl⟩, fun h => by omega⟩, fun ad e => by cases e⟩
  · injection e1 with e1 e3 e4
    subst e1 e4
    refine ⟨⟨hl, hn, (fun e => by cases e), fun hp => ⟨_, rfl, fun j hj => ?_⟩⟩, fun ad e => by cases e; exact ⟨rfl, hB, lt_of_block hh⟩⟩
    exact h.cells (g := q) rfl j _ (by have h1 : j < xs.length := by omega
                                       simp [nums, List.getElem?_map, List.getElem?_eq_getElem h1, List.getD])

def Dk (w : World) (B g : Nat) (σ : DS) : Prop := IsDisk w B g σ (fun k => B ≤ k ∧ k < w.heap.size)
theorem Dk.next {w w' : World} {B g : Nat} {σ' : DS} {S : Nat → Prop} (hS : ∀ k, S k → B ≤ k) (hB : B ≤ w.heap.size) (h : Post B g S σ' w w') : Dk w' B g σ' :=
  IsDisk.mono h.1 (fun k hk hs => ⟨hs.elim (hS k) (fun h => by omega), hk⟩)

set_option maxHeartbeats 2000000 in
set_option maxRecDepth 100000 in
theorem alive_any (w : World) : Calls Try.prog 9 #[] w fun e w' => e = .returned (.bool true) ∧ Below w.heap.size w w' := by
  have kc := fun (w : World) (C : Array Value) (n c : Nat) => Lib.run_convert_bytes_const (P := Try.prog) w 26 5 C n c Try.underlying26 Try.underlying5
  go_enter Try.func9, Try.ntmps9
  go_wp2_with fail
  refine (new_at w 10).mono ?_
  rintro e w1 ⟨rfl, hd1, hb1, hs1⟩
  have Hd1 := Kp.mk hd1
  have Hb1 := Kp.mk hb1
  have Hs1 := Kp.mk hs1
  clear hd1 hb1 hs1
  have Hrd : Kp (Rd (w1.alloc (.cells #[.int .u8 97, .int .u8 98] 5 (2, 3))) .u8 (some ⟨w1.heap.size, 0, none⟩) 2 2 [97, 98]) := ⟨⟨rfl, by omega, (fun e => by cases e), fun _ => ⟨_, rfl, fun j hj => by
    rw [Addr.add_lit, cell_of_row _ _ _ _ _ _ (heap_alloc_new w1 _), Nat.zero_add]
    match j, hj with
    | 0, _ => rfl
    | 1, _ => rfl⟩⟩⟩
  go_wp2_with fail
  refine (append_any _ _ _ _ _ _ _ _ _ [97, 98] (Hd1.out.below (alloc_below w1 _)) ?_ ?_ ?_ Hrd.out ?_).mono ?_
  · decide
  · exact ⟨by decide, by decide⟩
  · have := Hs1.out; simp; omega
  · intro ad e _ h
    cases e
    have h1 := Hs1.out
    have h2 : w1.heap.size < w.heap.size + 2 := h.2
    omega
  rintro e w2 ⟨rfl, hp2⟩
  have hv : (DS.append ⟨max 0 10, [], [], 0⟩ ⟨#[97]⟩ [97, 98]) = (0, ⟨10, [([97], [97, 98], 0)], [], 0⟩) := by rfl
  rw [hv] at hp2 ⊢
  simp only at hp2 ⊢
  have Hp2 := Kp.mk hp2
  clear hp2 hv
  have hd2 : Dk w2 w.heap.size (w.heap.size + 1) ⟨10, [([97], [97, 98], 0)], [], 0⟩ := Dk.next (fun k h => h.1) (by have := Hs1.out; simp; omega) Hp2.out
  have Hsz2 : Kp (w1.heap.size < w2.heap.size) := ⟨by have := Hp2.out.2.size; simp at this; omega⟩
  have Hd2 := Kp.mk hd2
  clear hd2
  go_wp2_with fail
  refine (crash_any _ _ _ _ _ 1 Hd2.out (by have := Hs1.out; have := Hsz2.out; omega)).mono ?_
  rintro e w3 ⟨rfl, hp3⟩
  have hv : (DS.crash ⟨10, [([97], [97, 98], 0)], [], 0⟩ 1) = ⟨10, [([97], [97], 1)], [], 0⟩ := by rfl
  rw [hv] at hp3
  have hd3 : Dk w3 w.heap.size (w.heap.size + 1) ⟨10, [([97], [97], 1)], [], 0⟩ := Dk.next (fun k h => h.1) (by have := Hs1.out; have := Hsz2.out; omega) hp3
  have Hp3 := Kp.mk hp3
  have Hd3 := Kp.mk hd3
  clear hp3 hv hd3
  go_wp2_with fail
  refine (read_any _ _ _ _ _ ⟨#[97]⟩ 0 9 Hd3.out (by decide) (by omega) (by omega)).mono ?_
  rintro e w4 ⟨A', k, c', rfl, hown, hd4, hf4⟩
  have hv : (DS.read ⟨10, [([97], [97], 1)], [], 0⟩ ⟨#[97]⟩ 0 9) = (0, ⟨10, [([97], [97], 1)], [], 0⟩, [97]) := by rfl
  rw [hv] at hown ⊢
  simp only at hown ⊢
  have hk : k = 1 := by have := hown.1; simpa [nums] using this.symm
  subst hk
  obtain ⟨hrd, hsp⟩ := own_rd hown (by omega)
  have hstr := rd_string hrd
  have hs97 : strOfNums [97] = ⟨#[97]⟩ := rfl
  rw [hs97] at hstr
  have HB : Kp (Below w.heap.size w w4) := ⟨by
    have s1 := Hs1.out
    have s2 := Hsz2.out
    have f3 := Hp3.out.2.size
    have b2 : Below w.heap.size (w1.alloc (.cells #[.int .u8 97, .int .u8 98] 5 (2, 3))) w2 := Hp2.out.2.toBelow (fun k h => h.1) (by simp; omega)
    have b3 : Below w.heap.size w2 w3 := Hp3.out.2.toBelow (fun k h => h.1) (by omega)
    have b4 : Below w.heap.size w3 w4 := hf4.toBelow (fun k h => h.1) (by omega)
    exact (((Hb1.out.trans ((alloc_below w1 _).mono (by omega))).trans b2).trans b3).trans b4⟩
  clear hown hd4 hf4 hv hrd hsp hs97
  go_wp2_with (go_at_call 12; refine (num_any _ _).mono ?_; rintro e w' ⟨rfl, rfl⟩)
  go_ret
  exact ⟨rfl, HB.out⟩
end Go.Proofs.Ytgeklapphkgdkaa.Dsk
