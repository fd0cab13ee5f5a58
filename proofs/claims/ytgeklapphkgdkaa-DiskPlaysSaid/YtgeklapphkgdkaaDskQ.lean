import Derived.Test.YtgeklapphkgdkaaDskO
set_option linter.unusedVariables false
set_option linter.unusedSimpArgs false
namespace Go.Proofs.Ytgeklapphkgdkaa.Dsk
open Go.RowKit Go.Maps

theorem mem_delF {nm : List UInt8} {L : List FE} {y : FE} : y ∈ delF nm L ↔ y ∈ L ∧ y.name ≠ nm := by
  unfold delF
  rw [List.mem_filter]
  simp
theorem length_delF {nm : List UInt8} {L : List FE} {x : FE} (hx : x ∈ L) (hn : x.name = nm) : (delF nm L).length + 1 ≤ L.length := by
  have := List.length_filter_lt_length_iff_exists (p := fun x : FE => !(x.name == nm)) (l := L)
  have h2 : (delF nm L).length < L.length := this.2 ⟨x, hx, by simp [hn]⟩
  omega
theorem Disk1.del {w W : World} {B g : Nat} {σ : DS} {S : Nat → Prop} {L : List FE} {mb n : Nat} {A : Option Addr} {c : Nat} (h : Disk1 w B g σ S L mb A c) (nm : List UInt8)
    (hW : ∀ k, k < w.heap.size → k ≠ g → k ≠ mb → W.heap[k]? = w.heap[k]?)
    (ht : W.heap[g]? = some (.cells #[.int .i64 σ.room, .map (some mb), .int .i64 (used (delA nm σ.files)), .slice A σ.fails.length c, .int .i64 σ.failed] 59 (0, 0)))
    (hm : W.ownsMap Try.prog 9 ptrE mb n (.map ((delF nm L).map FE.ent))) : Disk1 W B g { σ with files := delA nm σ.files } S (delF nm L) mb A c := by
  have hsub : ∀ y, y ∈ delF nm L → y ∈ L := fun y hy => (mem_delF.1 hy).1
  refine ⟨by rw [del_abs, h.abs], ht, by have := map_tight hm; rwa [List.length_map] at this, fun y hy => ?_, h.apart.filter _, ?_, h.gB, h.gS, h.mB, h.mS, Nat.le_trans (List.length_filter_le _ _) h.most⟩
  · obtain ⟨h1, h2, h3⟩ := h.file y (hsub y hy)
    refine ⟨(hW y.blk (lt_of_block h1) (h.g_ne_blk (hsub y hy)) (h.map_ne_blk (hsub y hy))).trans h1, row_heap h2 (fun k e => hW k (h2.lt k e).2 ?_ ?_), h3⟩
    · rintro rfl; exact h.row_ne_g (hsub y hy) e
    · rintro rfl; exact h.row_ne_map (hsub y hy) e
  · obtain ⟨f1, f2, f3⟩ := h.fails
    refine ⟨f1, f2, ?_⟩
    rcases f3 with f3 | ⟨fb, off, cs, fr, e, hS, hB, hh, hc⟩
    · exact .inl f3
    · refine .inr ⟨fb, off, cs, fr, e, hS, hB, (hW fb (lt_of_block hh) ?_ ?_).trans hh, hc⟩
      · rintro rfl; rw [h.top] at hh; simp at hh
      · rintro rfl; obtain ⟨es, clock, hb', _⟩ := h.own; rw [hb'] at hh; simp at hh
/-- A file under another name. -/
theorem Disk1.move {w W : World} {B g : Nat} {σ : DS} {S : Nat → Prop} {L : List FE} {mb n : Nat} {A : Option Addr} {c : Nat} (h : Disk1 w B g σ S L mb A c) {x : FE} (hx : x ∈ L) (to : List UInt8) (hto : findF to L = none)
    (hW : ∀ k, k < w.heap.size → k ≠ mb → W.heap[k]? = w.heap[k]?)
    (hm : W.ownsMap Try.prog 9 ptrE mb n (.map ((insF { x with name := to } (delF x.name L)).map FE.ent))) :
    Disk1 W B g { σ with files := insA to (x.b, x.syn) (delA x.name σ.files) } S (insF { x with name := to } (delF x.name L)) mb A c := by
  have hnames := h.names
  have hu : used (insA to (x.b, x.syn) (delA x.name σ.files)) = used σ.files := by
    have hl : lookA x.name σ.files = some (x.b, x.syn) := by
      rw [h.look]
      have : findF x.name L = some x := by
        cases hf : findF x.name L with
        | none => exact absurd rfl (find_none hf x hx)
        | some y => have := mem_find hf; rw [name_inj hnames this.1 hx this.2]
      rw [this]; rfl
    rw [used_ins, used_del x.name (x.b, x.syn) _ h.uniq hl]; simp only; omega
  have hsub : ∀ y, y ∈ delF x.name L → y ∈ L := fun y hy => (mem_delF.1 hy).1
  have hfile : ∀ y, y ∈ L → FileAt W B S y := by
    intro y hy
    obtain ⟨h1, h2, h3⟩ := h.file y hy
    refine ⟨(hW y.blk (lt_of_block h1) (h.map_ne_blk hy)).trans h1, row_heap h2 (fun k e => hW k (h2.lt k e).2 ?_), h3⟩
    rintro rfl; exact h.row_ne_map hy e
  have sym : ∀ a b : FE, (a.blk ≠ b.blk ∧ (a.row.ownBlock = none ∨ a.row.ownBlock ≠ b.row.ownBlock)) → (b.blk ≠ a.blk ∧ (b.row.ownBlock = none ∨ b.row.ownBlock ≠ a.row.ownBlock)) := by
    intro a b hab
    refine ⟨fun e => hab.1 e.symm, ?_⟩
    by_cases hb0 : b.row.ownBlock = none
    · exact .inl hb0
    · rcases hab.2 with h0 | h0
      · exact .inr (by rw [h0]; exact hb0)
      · exact .inr (fun e => h0 e.symm)
  refine ⟨by rw [ins_abs, del_abs, h.abs], ?_, by have := map_tight hm; rwa [List.length_map] at this, fun y hy => ?_, ?_, ?_, h.gB, h.gS, h.mB, h.mS, ?_⟩
  · rw [hu, hW g (lt_of_block h.top) h.g_ne_map.symm]; exact h.top
  · rcases mem_insF.1 hy with rfl | hy
    · exact hfile x hx
    · exact hfile y (hsub y hy)
  · refine pair_insF sym (h.apart.filter _) (fun y hy => ?_)
    have hy' := mem_delF.1 hy
    exact pair_mem sym h.apart x y hx hy'.1 (fun e => hy'.2 (by rw [e]))
  · obtain ⟨f1, f2, f3⟩ := h.fails
    refine ⟨f1, f2, ?_⟩
    rcases f3 with f3 | ⟨fb, off, cs, fr, e, hS, hB, hh, hc⟩
    · exact .inl f3
    · refine .inr ⟨fb, off, cs, fr, e, hS, hB, (hW fb (lt_of_block hh) ?_).trans hh, hc⟩
      rintro rfl; obtain ⟨es, clock, hb', _⟩ := h.own; rw [hb'] at hh; simp at hh
  · rw [length_insF]
    have := length_delF (L := L) hx rfl
    have := h.most
    omega

def GoneP (B g : Nat) (σ : DS) (S : Nat → Prop) (nm : ByteArray) (L : List FE) (mb : Nat) (A : Option Addr) (c : Nat) (w : World) (e : Ending) (w' : World) : Prop :=
  e = .returned (.tuple #[]) ∧ Disk1 w' B g { σ with files := delA nm.data.toList σ.files } S (delF nm.data.toList L) mb A c ∧ Fr w w' S ∧ w'.heap.size = w.heap.size

set_option maxHeartbeats 4000000 in
set_option maxRecDepth 100000 in
theorem gone_any (w : World) (B g : Nat) (σ : DS) (S : Nat → Prop) (L : List FE) (mb : Nat) (A : Option Addr) (c : Nat) (nm : ByteArray) (hd : Disk1 w B g σ S L mb A c) (hs : nm.size ≤ 100000) :
    Calls Try.prog 32 #[.pointer (some ⟨g, 0, none⟩), .string nm] w (GoneP B g σ S nm L mb A c w) := by
  have c1 := cells_top hd.top 1 _ rfl
  have c2 := cells_top hd.top 2 _ rfl
  have f2 := free_top hd.top 2
  have hlk := hd.lookup nm hs
  have Hkey := Kp.mk (WideMaps.keyOf_string_mk Try.underlying9 (by unfold maxLen; omega) : keyOf Try.prog 9 (.string nm) = some (.string nm.data.toList))
  cases hp : findF nm.data.toList L with
  | none =>
    have e1 : ptrOf nm.data.toList L = none := by rw [ptrOf, hp]; rfl
    rw [e1] at hlk
    simp only [pv] at hlk
    have hfs : delA nm.data.toList σ.files = σ.files := used_del_none _ _ (by rw [hd.look, hp]; rfl)
    have hdl : delF nm.data.toList L = L := by
      unfold delF
      rw [List.filter_eq_self]
      intro y hy
      have := find_none hp y hy
      simp [this]
    have HP : Kp (GoneP B g σ S nm L mb A c w (.returned (.tuple #[])) w) := ⟨rfl, by rw [hfs, hdl]; exact hd, Fr.refl _ _, rfl⟩
    clear hd hp e1 hfs hdl
    go_enter Try.func32, Try.ntmps32
    go_wp2
    go_end0
    exact HP.out
  | some x =>
    have hm := mem_find hp
    have e1 : ptrOf nm.data.toList L = some x.blk := by rw [ptrOf, hp]; rfl
    rw [e1] at hlk
    simp only [pv] at hlk
    have hfile := hd.file x hm.1
    obtain ⟨Ar, cr, hrow⟩ := row_slice hfile.2.1
    have b0 := cells_top hfile.1 0 _ rfl
    rw [hrow] at b0
    have hxl := hfile.2.2.2.2.2.2
    obtain ⟨hu0, hu1⟩ := hd.usedBound
    have hxu : (x.b.length : Int) ≤ used σ.files := by
      have := look_used nm.data.toList σ.files (x.b, x.syn) (by rw [hd.look, hp]; rfl)
      exact this
    have HU : Kp (used (delA nm.data.toList σ.files) = used σ.files - x.b.length) := ⟨by
      rw [used_del nm.data.toList (x.b, x.syn) _ hd.uniq (by rw [hd.look, hp]; rfl)]⟩
    have HD := Kp.mk hd
    clear hd hp e1 hm hfile hrow
    go_enter Try.func32, Try.ntmps32
    go_wp2
    go_region
    all_goals
      go_wp2_with (at_delete; refine wpList_delete_own _ rfl _ _ 57 9 rfl 61 law9 Try.underlying57 ptrE mb L.length (.map (L.map FE.ent)) rfl (map_heap (w := w) HD.out.own (by exact setCell_heap _ _ _ _ _ HD.out.g_ne_map)) _ (.string nm.data.toList) rfl Hkey.out ?_; intro w2 hown2 hturn2; have Hown2 := Kp.mk hown2; have Hturn2 := Kp.mk hturn2; clear hown2 hturn2)
    all_goals
      go_end0
      have hg2 := Hturn2.out.grown
      have hsz : w2.heap.size = w.heap.size := by
        obtain ⟨es, clock, es', clock', _, rfl⟩ := Hturn2.out
        simp [ChangeMaps.setBlock, World.setCell]
      have hown2 := Hown2.out
      rw [del_ent] at hown2
      refine ⟨rfl, HD.out.del nm.data.toList (fun k hk1 hk2 hk3 => ?_) ?_ hown2, ?_, hsz⟩
      · rw [hg2.block k (by simpa [World.setCell] using hk1) (fun e => hk3 (by injection e))]
        exact setCell_heap _ _ _ _ _ hk2
      · rw [hg2.block g (by simpa [World.setCell] using lt_of_block HD.out.top) (fun e => HD.out.g_ne_map (by injection e with e; exact e.symm)), HU.out]
        exact (heap_setCell_same _ _ _ _ _ _ HD.out.top)
      · exact (((Fr.refl w S).setCell (a := ⟨g, 2, none⟩) (.inl HD.out.gS) _).drewN 1).turned Hturn2.out (.inl HD.out.mS)

/-! ### Rename, Remove, Size -/
def DS.rename (σ : DS) (fr to : ByteArray) : Int × DS :=
  let r := σ.begin (nameOk fr && nameOk to)
  if r.1 = 0 then
    match lookA fr.data.toList r.2.files with
    | none => (8, r.2)
    | some f => if fr = to then (0, r.2) else (0, { r.2 with files := insA to.data.toList f (delA fr.data.toList (delA to.data.toList r.2.files)) })
  else r
theorem names2 (w : World) (a b : ByteArray) : NamesAt (w.alloc (.cells #[.string a, .string b] 9)) ⟨w.heap.size, 0, none⟩ [a, b] := by
  intro j hj
  rw [Addr.add_lit, cell_of_row _ _ _ _ _ _ (heap_alloc_new w _), Nat.zero_add]
  match j, hj with
  | 0, _ => rfl
  | 1, _ => rfl
theorem open2 (w : World) (B g : Nat) (σ : DS) (S : Nat → Prop) (a b : ByteArray) (h : IsDisk w B g σ S) (ha : a.size ≤ 100000) (hb : b.size ≤ 100000) :
    Calls Try.prog 30 #[.pointer (some ⟨g, 0, none⟩), .slice (some ⟨w.heap.size, 0, none⟩) 2 2] (w.alloc (.cells #[.string a, .string b] 9)) (fun e w' => OpenPost B g σ S (nameOk a && nameOk b) a.data.toList (w.alloc (.cells #[.string a, .string b] 9)) e w') := by
  have := open_any (w.alloc (.cells #[.string a, .string b] 9)) B g σ S w.heap.size [a, b] a (h.below (alloc_below w _)) (names2 w a b) (by have := h.lt; omega) (by simp) rfl (by simp) (by intro s hm; simp at hm; rcases hm with rfl | rfl <;> assumption)
  simpa using this
end Go.Proofs.Ytgeklapphkgdkaa.Dsk
