import Derived.Test.YtgeklapphkgdkaaDskB
set_option linter.unusedVariables false
set_option linter.unusedSimpArgs false
namespace Go.Proofs.Ytgeklapphkgdkaa.Dsk
open Go.RowKit Go.Maps

def DS.begin (σ : DS) (ok : Bool) : Int × DS :=
  match σ.fails with
  | [] => (if ok then 0 else 6, σ)
  | x :: r => if x = 0 then (if ok then 0 else 6, { σ with fails := r }) else (11, { σ with fails := r, failed := wrap64 (σ.failed + 1) })

theorem cells_top {w : World} {g : Nat} {cs : Array Value} {t : TypeId} (h : w.heap[g]? = some (.cells cs t (0, 0))) (j : Nat) (v : Value) (hv : cs[j]? = some v) : w.cell? ⟨g, j, none⟩ = some v := by
  rw [cell_of_row w g j cs t (0, 0) h]; exact hv
theorem free_top {w : World} {g : Nat} {cs : Array Value} {t : TypeId} (h : w.heap[g]? = some (.cells cs t (0, 0))) (j : Nat) : w.frozen? ⟨g, j, none⟩ = false := frozen_of_row w g j cs t h

/-- Another head, the rest as it was. -/
theorem Disk1.retop {w W : World} {B g : Nat} {σ : DS} {S : Nat → Prop} {L : List FE} {mb : Nat} {A A' : Option Addr} {c c' : Nat} {fails : List Int} {failed : Int} (h : Disk1 w B g σ S L mb A c)
    (hW : ∀ k, k ≠ g → W.heap[k]? = w.heap[k]?) (ht : W.heap[g]? = some (.cells #[.int .i64 σ.room, .map (some mb), .int .i64 (used σ.files), .slice A' fails.length c', .int .i64 failed] 59 (0, 0)))
    (hf : FailsAt w S B A' c' fails) : Disk1 W B g { σ with fails := fails, failed := failed } S L mb A' c' := by
  have top := h.top
  refine ⟨h.abs, ht, map_heap h.own (hW mb ?_), fun x hx => ?_, h.apart, ?_, h.gB, h.gS, h.mB, h.mS, h.most⟩
  · rintro rfl
    obtain ⟨es, clock, hb, _⟩ := h.own
    rw [top] at hb; cases hb
  · obtain ⟨h1, h2, h3⟩ := h.file x hx
    refine ⟨(hW x.blk ?_).trans h1, row_heap h2 (fun k e => hW k ?_), h3⟩
    · intro e; rw [e, top] at h1; simp at h1
    · rintro rfl
      rcases h2.2 with ⟨e1, _⟩ | ⟨q, cap, cur, e1, _, hh, _⟩
      · rw [e1] at e; cases e
      · rw [e1] at e; cases e; rw [top] at hh; simp at hh
  · obtain ⟨h1, h2, h3⟩ := hf
    refine ⟨h1, h2, ?_⟩
    rcases h3 with h3 | ⟨fb, off, cs, fr, e, hS, hB, hh, hc⟩
    · exact .inl h3
    · exact .inr ⟨fb, off, cs, fr, e, hS, hB, by rw [hW fb (by rintro rfl; rw [top] at hh; simp at hh)]; exact hh, hc⟩
theorem FailsAt.tail {w : World} {S : Nat → Prop} {B fb off c : Nat} {x : Int} {r : List Int} (h : FailsAt w S B (some ⟨fb, off, none⟩) c (x :: r)) : FailsAt w S B (some ⟨fb, off + 1, none⟩) (c - 1) r := by
  obtain ⟨h1, h2, h3⟩ := h
  refine ⟨by simp at h1; omega, by omega, .inr ?_⟩
  rcases h3 with h3 | ⟨fb', off', cs, fr, e, hS, hB, hh, hc⟩
  · cases h3
  · cases e
    exact ⟨_, _, cs, fr, rfl, hS, hB, hh, fun j hj => by have := hc (j + 1) (by simp; omega); rw [Nat.add_assoc, Nat.add_comm 1 j]; simpa using this⟩
theorem FailsAt.nil {w : World} {S : Nat → Prop} {B : Nat} {A : Option Addr} {c : Nat} (hc : c ≤ 9223372036854775807) : FailsAt w S B A c [] := ⟨by simp, hc, .inl rfl⟩
theorem fr_set (w : World) (g i : Nat) (v : Value) : Fr w (w.setCell ⟨g, i, none⟩ v) (fun k => k = g) := Fr.setCell (Fr.refl w (fun k => k = g)) (a := ⟨g, i, none⟩) (.inl rfl) v
theorem setCell_heap (w : World) (g i : Nat) (v : Value) (k : Nat) (h : k ≠ g) : (w.setCell ⟨g, i, none⟩ v).heap[k]? = w.heap[k]? := heap_setCell_other w _ k v h

/-- The names of a call. -/
def NamesAt (w : World) (ad : Addr) (ns : List ByteArray) : Prop := ∀ j, j < ns.length → w.cell? (ad.add j) = some (.string (ns.getD j ByteArray.empty))

theorem right_true (s : ByteArray) (hs : s.size ≤ 100000) (h : nameOk s = true) (w : World) : Calls Try.prog 48 #[.string s] w fun e w' => e = .returned (.bool true) ∧ Below w.heap.size w w' :=
  (right_any s hs w).mono fun _ _ h1 => ⟨by rw [h1.1, h], h1.2⟩
theorem right_false (s : ByteArray) (hs : s.size ≤ 100000) (h : nameOk s = false) (w : World) : Calls Try.prog 48 #[.string s] w fun e w' => e = .returned (.bool false) ∧ Below w.heap.size w w' :=
  (right_any s hs w).mono fun _ _ h1 => ⟨by rw [h1.1, h], h1.2⟩
theorem take_all (ns : List ByteArray) (k : Nat) (hk : k < ns.length) (h : (ns.take k).all nameOk = true) (hn : nameOk (ns.getD k ByteArray.empty) = true) : (ns.take (k + 1)).all nameOk = true := by
  rw [List.take_succ_eq_append_getElem hk, List.all_append, h]
  have : ns.getD k ByteArray.empty = ns[k] := by simp [List.getD, hk]
  rw [this] at hn
  simp [hn]
theorem not_all (ns : List ByteArray) (k : Nat) (hk : k < ns.length) (hn : nameOk (ns.getD k ByteArray.empty) = false) : ns.all nameOk = false := by
  have : ns.getD k ByteArray.empty = ns[k] := by simp [List.getD, hk]
  rw [this] at hn
  exact List.all_eq_false.2 ⟨ns[k], List.getElem_mem hk, by simp [hn]⟩
theorem mem_getD (ns : List ByteArray) (k : Nat) (hk : k < ns.length) : ns.getD k ByteArray.empty ∈ ns := by
  have : ns.getD k ByteArray.empty = ns[k] := by simp [List.getD, hk]
  rw [this]; exact List.getElem_mem hk

set_option maxHeartbeats 2000000 in
set_option maxRecDepth 100000 in
theorem begin_any (w : World) (B g : Nat) (σ : DS) (S : Nat → Prop) (ad : Addr) (ns : List ByteArray) (h : IsDisk w B g σ S) (hn : NamesAt w ad ns) (hg : ad.block ≠ g) (hl : ns.length ≤ 100) (hs : ∀ s, s ∈ ns → s.size ≤ 100000) :
    Calls Try.prog 28 #[.pointer (some ⟨g, 0, none⟩), .slice (some ad) ns.length ns.length] w
      fun e w' => e = .returned (.int .i64 (σ.begin (ns.all nameOk)).1) ∧ IsDisk w' B g (σ.begin (ns.all nameOk)).2 S ∧ Fr w w' (fun k => k = g) := by
  obtain ⟨L, mb, A, c, h⟩ := h
  have c3 := cells_top h.top 3 _ rfl
  have c4 := cells_top h.top 4 _ rfl
  have f3 := free_top h.top 3
  have f4 := free_top h.top 4
  have H := Kp.mk h
  have Hn := Kp.mk hn
  have Hs := Kp.mk hs
  clear h hn hs
  obtain ⟨room, files, fails, failed⟩ := σ
  simp only at c3 c4 H
  have hgS := H.out.gS
  rcases fails with _ | ⟨x, r⟩
  case' nil =>
    obtain ⟨σ1, hσ1⟩ : ∃ σ1, σ1 = DS.mk room files [] failed := ⟨_, rfl⟩
    have HD : Kp (IsDisk w B g σ1 S) := ⟨by rw [hσ1]; exact ⟨L, mb, A, c, H.out⟩⟩
    have HF : Kp (Fr w w (fun k => k = g)) := ⟨Fr.refl _ _⟩
    have Hf : Kp (∀ ok : Bool, (DS.begin ⟨room, files, [], failed⟩ ok) = (if ok then 0 else 6, σ1)) := ⟨fun _ => by rw [hσ1]; rfl⟩
    simp only [List.length_nil] at c3
    clear H hσ1
    go_enter Try.func28, Try.ntmps28
    go_wp2_with fail
  case' cons =>
    simp only [List.length_cons] at c3
    rcases H.out.fails.2.2 with h0 | ⟨fb, off, cs, fr, rfl, hSf, hBf, hh, hc⟩
    · cases h0
    have cx : w.cell? ⟨fb, off, none⟩ = some (.int .i64 x) := by
      rw [cell_of_row w fb off cs _ fr hh]; simpa using hc 0 (by simp)
    have Ht := Kp.mk H.out.fails.tail
    have Hn1 := Kp.mk (H.out.fails.1)
    have Hn2 := Kp.mk (H.out.fails.2.1)
    clear hc hh
    by_cases h1 : c = 1
    case' pos =>
      subst h1
      have hr : r = [] := List.eq_nil_of_length_eq_zero (by have := Hn1.out; simp only [List.length_cons] at this; omega)
      subst hr
      have e0 : FailsAt w S B (some ⟨fb, off, none⟩) 0 [] := FailsAt.nil (by omega)
      by_cases hx : x = 0
      rotate_left
      · have hxb : (x != 0) = true := by simpa using hx
        have HD : Kp (IsDisk ((w.setCell ⟨g, 3, none⟩ (.slice (some ⟨fb, off, none⟩) 0 0)).setCell ⟨g, 4, none⟩ (.int .i64 (wrap64 (failed + 1)))) B g ⟨room, files, [], wrap64 (failed + 1)⟩ S) :=
          ⟨⟨L, mb, _, _, H.out.retop (fun k hk => by rw [setCell_heap _ _ _ _ _ hk, setCell_heap _ _ _ _ _ hk]) (by rw [heap_setCell_same _ _ _ _ _ _ (heap_setCell_same _ _ _ _ _ _ H.out.top)]; rfl) e0⟩⟩
        have Hf : Kp (∀ ok : Bool, (DS.begin ⟨room, files, x :: [], failed⟩ ok) = (11, ⟨room, files, [], wrap64 (failed + 1)⟩)) := ⟨fun _ => by simp [DS.begin, hx]⟩
        have HF : Kp (Fr w ((w.setCell ⟨g, 3, none⟩ (.slice (some ⟨fb, off, none⟩) 0 0)).setCell ⟨g, 4, none⟩ (.int .i64 (wrap64 (failed + 1)))) (fun k => k = g)) := ⟨(fr_set _ _ _ _).setCell (a := ⟨g, 4, none⟩) (.inl rfl) _⟩
        clear H
        go_enter Try.func28, Try.ntmps28
        go_wp2_with fail
        go_ret
        rw [Hf.out]
        exact ⟨rfl, HD.out, HF.out⟩
      subst hx
      obtain ⟨σ1, hσ1⟩ : ∃ σ1, σ1 = DS.mk room files [] failed := ⟨_, rfl⟩
      have HD : Kp (IsDisk (w.setCell ⟨g, 3, none⟩ (.slice (some ⟨fb, off, none⟩) 0 0)) B g σ1 S) :=
        ⟨by rw [hσ1]; exact ⟨L, mb, _, _, H.out.retop (fun k hk => by rw [setCell_heap _ _ _ _ _ hk]) (by rw [heap_setCell_same _ _ _ _ _ _ H.out.top]; rfl) e0⟩⟩
      have HF : Kp (Fr w (w.setCell ⟨g, 3, none⟩ (.slice (some ⟨fb, off, none⟩) 0 0)) (fun k => k = g)) := ⟨fr_set _ _ _ _⟩
      have Hf : Kp (∀ ok : Bool, (DS.begin ⟨room, files, 0 :: [], failed⟩ ok) = (if ok then 0 else 6, σ1)) := ⟨fun _ => by rw [hσ1]; rfl⟩
      clear H hσ1
      go_enter Try.func28, Try.ntmps28
      go_wp2_with fail
    case' neg =>
      by_cases hx : x = 0
      rotate_left
      · have hxb : (x != 0) = true := by simpa using hx
        have HD : Kp (IsDisk ((w.setCell ⟨g, 3, none⟩ (.slice (some ⟨fb, off + 1, none⟩) r.length (c - 1))).setCell ⟨g, 4, none⟩ (.int .i64 (wrap64 (failed + 1)))) B g ⟨room, files, r, wrap64 (failed + 1)⟩ S) :=
          ⟨⟨L, mb, _, _, H.out.retop (fun k hk => by rw [setCell_heap _ _ _ _ _ hk, setCell_heap _ _ _ _ _ hk]) (by rw [heap_setCell_same _ _ _ _ _ _ (heap_setCell_same _ _ _ _ _ _ H.out.top)]; rfl) Ht.out⟩⟩
        have Hf : Kp (∀ ok : Bool, (DS.begin ⟨room, files, x :: r, failed⟩ ok) = (11, ⟨room, files, r, wrap64 (failed + 1)⟩)) := ⟨fun _ => by simp [DS.begin, hx]⟩
        have HF : Kp (Fr w ((w.setCell ⟨g, 3, none⟩ (.slice (some ⟨fb, off + 1, none⟩) r.length (c - 1))).setCell ⟨g, 4, none⟩ (.int .i64 (wrap64 (failed + 1)))) (fun k => k = g)) := ⟨(fr_set _ _ _ _).setCell (a := ⟨g, 4, none⟩) (.inl rfl) _⟩
        clear H
        go_enter Try.func28, Try.ntmps28
        go_wp2_with fail
        go_ret
        rw [Hf.out]
        exact ⟨rfl, HD.out, HF.out⟩
      subst hx
      obtain ⟨σ1, hσ1⟩ : ∃ σ1, σ1 = DS.mk room files r failed := ⟨_, rfl⟩
      have HD : Kp (IsDisk (w.setCell ⟨g, 3, none⟩ (.slice (some ⟨fb, off + 1, none⟩) r.length (c - 1))) B g σ1 S) :=
        ⟨by rw [hσ1]; exact ⟨L, mb, _, _, H.out.retop (fun k hk => by rw [setCell_heap _ _ _ _ _ hk]) (by rw [heap_setCell_same _ _ _ _ _ _ H.out.top]; rfl) Ht.out⟩⟩
      have HF : Kp (Fr w (w.setCell ⟨g, 3, none⟩ (.slice (some ⟨fb, off + 1, none⟩) r.length (c - 1))) (fun k => k = g)) := ⟨fr_set _ _ _ _⟩
      have Hf : Kp (∀ ok : Bool, (DS.begin ⟨room, files, 0 :: r, failed⟩ ok) = (if ok then 0 else 6, σ1)) := ⟨fun _ => by rw [hσ1]; rfl⟩
      clear H hσ1
      go_enter Try.func28, Try.ntmps28
      go_wp2_with fail
  all_goals
    go_loopw [39] (fun i wr => ∃ k : Nat, k ≤ ns.length ∧ i = .int .i64 k ∧ Kp ((ns.take k).all nameOk = true) ∧ Kp (IsDisk wr B g σ1 S) ∧ Kp (Fr w wr (fun k => k = g))) (fun i _ => ns.length - (intOf i).toNat)
    case atStart => exact ⟨0, Nat.zero_le _, rfl, ⟨rfl⟩, HD, HF⟩
    case round =>
      clear c3 c4 f3 f4 HD HF
      obtain ⟨k, hk, rfl, Ha, HD, HF⟩ := hrel
      by_cases hlt : k < ns.length
      · have hc := HF.out.cell (Hn.out k hlt) (by unfold Addr.add; split <;> exact hg)
        have hsz := Hs.out _ (mem_getD ns k hlt)
        have Ht := Kp.mk (take_all ns k hlt Ha.out)
        have Hx := Kp.mk (not_all ns k hlt)
        obtain ⟨s, hsd⟩ : ∃ s, ns.getD k ByteArray.empty = s := ⟨_, rfl⟩
        rw [hsd] at hc hsz Ht Hx
        clear hsd
        by_cases hno : nameOk s = true
        · replace Ht := Kp.mk (Ht.out hno)
          have Hno := Kp.mk hno
          clear hno Hx
          go_wp2_with (go_at_call 48; refine (right_true s hsz Hno.out _).mono ?_; rintro e w' ⟨rfl, hb⟩)
          go_roundw
          case rel => exact ⟨k + 1, by omega, by go_num, Ht, ⟨HD.out.below hb⟩, ⟨HF.out.below hb⟩⟩
          case measure => simp [intOf]; omega
        · have hno' : nameOk s = false := by simpa using hno
          replace Hx := Kp.mk (Hx.out hno')
          have Hno := Kp.mk hno'
          clear hno hno' Ht
          go_wp2_with (go_at_call 48; refine (right_false s hsz Hno.out _).mono ?_; rintro e w' ⟨rfl, hb⟩)
          go_ret
          rw [Hx.out, Hf.out]
          exact ⟨rfl, HD.out.below hb, HF.out.below hb⟩
      · have Hx : Kp (ns.all nameOk = true) := ⟨by have := Ha.out; rwa [List.take_of_length_le (by omega)] at this⟩
        go_wp2
        go_ret
        rw [Hx.out, Hf.out]
        exact ⟨rfl, HD.out, HF.out⟩
end Go.Proofs.Ytgeklapphkgdkaa.Dsk
