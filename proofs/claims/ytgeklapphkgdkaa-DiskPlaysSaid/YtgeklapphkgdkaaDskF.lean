import Derived.Test.YtgeklapphkgdkaaDskE
set_option linter.unusedVariables false
set_option linter.unusedSimpArgs false
namespace Go.Proofs.Ytgeklapphkgdkaa.Dsk
open Go.RowKit Go.Maps

def DS.sync (σ : DS) (nm : ByteArray) : Int × DS :=
  let r := σ.begin (nameOk nm)
  if r.1 = 0 then
    match lookA nm.data.toList r.2.files with
    | none => (8, r.2)
    | some f => (0, { r.2 with files := setA nm.data.toList (f.1, f.1.length) r.2.files })
  else r

/-- What every call of the disk leaves. -/
def Post (B g : Nat) (S : Nat → Prop) (σ' : DS) (w w' : World) : Prop := IsDisk w' B g σ' (fun k => S k ∨ w.heap.size ≤ k) ∧ Fr w w' S
theorem IsDisk.gS {w : World} {B g : Nat} {σ : DS} {S : Nat → Prop} (h : IsDisk w B g σ S) : S g := by obtain ⟨L, mb, A, c, h⟩ := h; exact h.gS
theorem IsDisk.gB {w : World} {B g : Nat} {σ : DS} {S : Nat → Prop} (h : IsDisk w B g σ S) : B ≤ g := by obtain ⟨L, mb, A, c, h⟩ := h; exact h.gB
theorem IsDisk.lt {w : World} {B g : Nat} {σ : DS} {S : Nat → Prop} (h : IsDisk w B g σ S) : g < w.heap.size := by obtain ⟨L, mb, A, c, h⟩ := h; exact lt_of_block h.top
theorem IsDisk.wide {w : World} {B g : Nat} {σ : DS} {S : Nat → Prop} (h : IsDisk w B g σ S) (n : Nat) : IsDisk w B g σ (fun k => S k ∨ n ≤ k) := h.mono (fun _ _ h => .inl h)
theorem names1 (w : World) (nm : ByteArray) : NamesAt (w.alloc (.cells #[.string nm] 9)) ⟨w.heap.size, 0, none⟩ [nm] := by
  intro j hj
  have : j = 0 := by simpa using hj
  subst this
  rw [Addr.add_lit, cell_of_row _ _ _ _ _ _ (heap_alloc_new w _)]; rfl
theorem all1 (nm : ByteArray) : [nm].all nameOk = nameOk nm := by simp
theorem fr_g {w w1 w2 : World} {g : Nat} {S : Nat → Prop} (hb : Below w.heap.size w w1) (hf : Fr w1 w2 (fun k => k = g)) (hS : S g) : Fr w w2 S :=
  (Fr.of_below (S := S) hb).trans hf (fun k hk => by rw [hk]; exact .inl hS)
theorem alloc_below (w : World) (o : Obj) : Below w.heap.size w (w.alloc o) := (Below.refl _ _).alloc (Nat.le_refl _) o
theorem row_slice {w : World} {B e n : Nat} {v : Value} {xs : List Value} (h : w.ownsRow B e 1 v n xs) : ∃ A c, v = .slice A n c := by
  rcases h.2 with ⟨e1, e2⟩ | ⟨q, cap, cur, e1, _⟩
  · exact ⟨none, 0, by rw [e1, e2]⟩
  · exact ⟨_, _, e1⟩

/-- The one call of 'open' with one name, as it stands behind the names' slice. -/
theorem open1 (w : World) (B g : Nat) (σ : DS) (S : Nat → Prop) (nm : ByteArray) (h : IsDisk w B g σ S) (hs : nm.size ≤ 100000) :
    Calls Try.prog 30 #[.pointer (some ⟨g, 0, none⟩), .slice (some ⟨w.heap.size, 0, none⟩) 1 1] (w.alloc (.cells #[.string nm] 9)) (fun e w' => OpenPost B g σ S (nameOk nm) nm.data.toList (w.alloc (.cells #[.string nm] 9)) e w') := by
  have := open_any (w.alloc (.cells #[.string nm] 9)) B g σ S w.heap.size [nm] nm (h.below (alloc_below w _)) (names1 w nm) (by have := h.lt; omega) (by simp) rfl (by simp) (by intro s hm; simp at hm; subst hm; exact hs)
  rw [all1] at this
  exact this

set_option maxHeartbeats 2000000 in
set_option maxRecDepth 100000 in
theorem sync_any (w : World) (B g : Nat) (σ : DS) (S : Nat → Prop) (nm : ByteArray) (h : IsDisk w B g σ S) (hs : nm.size ≤ 100000) :
    Calls Try.prog 16 #[.pointer (some ⟨g, 0, none⟩), .string nm] w fun e w' => e = .returned (.int .i64 (σ.sync nm).1) ∧ Post B g S (σ.sync nm).2 w w' := by
  have Ho := Kp.mk (open1 w B g σ S nm h hs)
  have HS := Kp.mk h.gS
  have Hg := Kp.mk h.lt
  clear h
  go_enter Try.func16, Try.ntmps16
  go_wp2_with fail
  refine Ho.out.mono ?_
  rintro e w1 ⟨hf, L, mb, A, c, hd, hcase⟩
  have HF := Kp.mk (fr_g (alloc_below w _) hf HS.out)
  rcases hcase with ⟨he, rfl⟩ | ⟨he, ⟨hn, rfl⟩ | ⟨x, hx, rfl⟩⟩
  · have Hr : Kp (σ.sync nm = σ.begin (nameOk nm)) := ⟨by unfold DS.sync; simp only; rw [if_neg he]⟩
    have hb : (((σ.begin (nameOk nm)).1) == 0) = false := by simpa using he
    have HD := Kp.mk hd
    clear hd hf Ho he
    generalize (σ.begin (nameOk nm)) = r at *
    obtain ⟨e0, σ1⟩ := r
    simp only at hb HD
    go_wp2
    go_ret
    rw [Hr.out]
    exact ⟨rfl, IsDisk.wide ⟨L, mb, A, c, HD.out⟩ _, HF.out⟩
  · have Hr : Kp (σ.sync nm = (8, (σ.begin (nameOk nm)).2)) := ⟨by unfold DS.sync; simp only; rw [if_pos he, hd.look, hn]; rfl⟩
    have HD := Kp.mk hd
    clear hd hf Ho he hn
    go_wp2
    go_ret
    rw [Hr.out]
    exact ⟨rfl, IsDisk.wide ⟨L, mb, A, c, HD.out⟩ _, HF.out⟩
  · have hm := mem_find hx
    have hfile := hd.file x hm.1
    obtain ⟨Ar, cr, hrow⟩ := row_slice hfile.2.1
    have b0 := cells_top hfile.1 0 _ rfl
    rw [hrow] at b0
    have b1 := cells_top hfile.1 1 _ rfl
    have f1 := free_top hfile.1 1
    have Hr : Kp (σ.sync nm = (0, { (σ.begin (nameOk nm)).2 with files := setA x.name (x.b, x.b.length) (σ.begin (nameOk nm)).2.files })) := ⟨by unfold DS.sync; simp only; rw [if_pos he, hd.look, hx, hm.2]; rfl⟩
    have hu : used (setA x.name (x.b, x.b.length) (σ.begin (nameOk nm)).2.files) = used (σ.begin (nameOk nm)).2.files := by
      rw [used_set x.name (x.b, x.b.length) (x.b, x.syn) _ hd.uniq (by rw [hd.look, hm.2, hx]; rfl)]; simp only; omega
    have HW : Kp (Disk1 (w1.setCell ⟨x.blk, 1, none⟩ (.int .i64 x.b.length)) B g { (σ.begin (nameOk nm)).2 with files := setA x.name (x.b, x.b.length) (σ.begin (nameOk nm)).2.files } (fun k => S k ∨ w1.heap.size ≤ k) (setF { x with syn := x.b.length } L) mb A c) :=
      ⟨hd.upd (x' := { x with syn := x.b.length }) hm.1 rfl rfl (fun k _ _ hk _ => setCell_heap _ _ _ _ _ hk) (by rw [setCell_heap _ _ _ _ _ (fun e => hd.g_ne_blk hm.1 e.symm), hu]; exact hd.top)
        (by rw [heap_setCell_same _ _ _ _ _ _ hfile.1]; rfl) (row_heap hfile.2.1 (fun k e => setCell_heap _ _ _ _ _ (by rintro rfl; exact hd.row_ne_blk hm.1 hm.1 e))) (.inl rfl) (Nat.le_refl _) hfile.2.2.2.2.2.2⟩
    have HxS := Kp.mk (hfile.2.2.2.1)
    clear hd hf Ho he hx hfile hu
    go_wp2
    go_ret
    rw [Hr.out]
    exact ⟨rfl, IsDisk.mono ⟨_, mb, A, c, HW.out⟩ (fun k _ hk => hk.imp id (fun h => Nat.le_trans HF.out.size h)), HF.out.setCell (a := ⟨x.blk, 1, none⟩) (.inl HxS.out) _⟩
end Go.Proofs.Ytgeklapphkgdkaa.Dsk
