import Derived.Test.YtgeklapphkgdkaaDskF
import Derived.Laws.AppendOwnNone
set_option linter.unusedVariables false
set_option linter.unusedSimpArgs false
namespace Go.Proofs.Ytgeklapphkgdkaa.Dsk
open Go.RowKit Go.Maps

/-- append(v, src...): v the call's own or nil, src whatever is read. -/
theorem wpList_append_rd {P : Program} (w : World) {ops : Array Oper} {rest : List Oper} {o : Oper} {a : Act} {Q : Exit → Act → World → Prop} (hgd : o.guard = none) (s x : Operand) (t e : TypeId) (k : IntKind) (bytes base : Nat)
    (ho : o.op = .call { callee := .builtin .append, args := #[s, x], argTypes := #[t, t] })
    (ht : P.underlying t = some (.slice e)) (hinfo : (P.info? e).map (fun i => (i.zero, i.size, i.bytes)) = some (some (.int k 0), 1, bytes)) (hb0 : 0 < bytes)
    (v : Value) (n m c : Nat) (xs ys : List Int) (A : Option Addr) (hs : a.eval s = v) (hx : a.eval x = .slice A m c) (hown : w.ownsRow base e 1 v n (nums k xs)) (hr : Rd w k A m c ys)
    (hl : (n + m) * bytes ≤ 140737488355328) (hbase : base ≤ w.heap.size)
    (h : ∀ A' c' w', w'.ownsRow base e 1 (.slice A' (n + m) c') (n + m) (nums k (xs ++ ys)) → w.grownBy w' v.ownBlock → ((Value.slice A' (n + m) c').ownBlock = v.ownBlock ∨ ∃ q, (Value.slice A' (n + m) c').ownBlock = some q ∧ w.heap.size ≤ q) → wpList P ops Q rest (a.put o.dst (.slice A' (n + m) c')) w') :
    wpList P ops Q (o :: rest) a w := by
  obtain ⟨i0, hi, hz0, hz1, hz2⟩ := info_parts hinfo
  have hlen : n + m ≤ 140737488355328 := Nat.le_trans (Nat.le_mul_of_pos_right _ hb0) hl
  cases A with
  | none =>
    obtain ⟨rfl, rfl⟩ := hr.nil rfl
    have hy : ys = [] := List.eq_nil_of_length_eq_zero hr.len
    subst hy
    refine wpList_append_own_none hgd s x t ho base e i0 1 ht hi v n (nums k xs) hs hown hx ?_
    obtain ⟨A', c', rfl⟩ := row_slice hown
    exact h A' c' w (by simpa using hown) (World.grownBy.refl _ _) (.inl rfl)
  | some ad =>
    have hcell : ∀ j u, (nums k ys)[j]? = some u → w.cell? (ad.add j) = some u := by
      intro j u hu
      have hj : j < ys.length := by
        have := (List.getElem?_eq_some_iff.1 hu).1
        simpa [nums] using this
      obtain ⟨ad', e', hc⟩ := hr.cell (by have := hr.len; omega)
      cases e'
      rw [hc j (by have := hr.len; omega)]
      rw [← hu]
      simp [nums, List.getD, hj]
    refine wpList_append_own_at w hgd s x t ho base e i0 (.int k 0) 1 bytes ht hi hz0 hz1 hz2 rfl (by omega) v n (nums k xs) hs hown ad m c (nums k ys) hx (by simp [nums, hr.len]) hcell (ints_oneCell k ys) (by unfold maxLen; omega) hl hbase ?_
    intro v' w' hown' hg _ hat
    obtain ⟨A', c', rfl⟩ := row_slice hown'
    refine h A' c' w' (by simpa [nums] using hown') hg ?_
    rcases hat with hat | hat
    · exact .inl hat
    · exact .inr ⟨_, hat, Nat.le_refl _⟩

def DS.append (σ : DS) (nm : ByteArray) (b : List Int) : Int × DS :=
  let r := σ.begin (nameOk nm)
  if r.1 = 0 then
    match lookA nm.data.toList r.2.files with
    | none => if 16777216 < b.length ∨ 1000 ≤ r.2.files.length then (3, r.2) else if r.2.room - used r.2.files < b.length then (7, r.2) else (0, { r.2 with files := insA nm.data.toList (b, 0) r.2.files })
    | some f => if 16777216 < f.1.length + b.length then (3, r.2) else if r.2.room - used r.2.files < b.length then (7, r.2) else (0, { r.2 with files := setA nm.data.toList (f.1 ++ b, f.2) r.2.files })
  else r

theorem append_err {σ σ1 : DS} {nm : ByteArray} {e0 : Int} (b : List Int) (h : σ.begin (nameOk nm) = (e0, σ1)) (he : ¬ e0 = 0) : σ.append nm b = (e0, σ1) := by
  unfold DS.append; rw [h]; exact if_neg he
theorem append_some {σ σ1 : DS} {nm : ByteArray} {f : List Int × Nat} (b : List Int) (h : σ.begin (nameOk nm) = (0, σ1)) (hl : lookA nm.data.toList σ1.files = some f) :
    σ.append nm b = if 16777216 < f.1.length + b.length then (3, σ1) else if σ1.room - used σ1.files < b.length then (7, σ1) else (0, { σ1 with files := setA nm.data.toList (f.1 ++ b, f.2) σ1.files }) := by
  unfold DS.append; rw [h]; simp only; rw [hl]; exact if_pos trivial
theorem append_none {σ σ1 : DS} {nm : ByteArray} (b : List Int) (h : σ.begin (nameOk nm) = (0, σ1)) (hl : lookA nm.data.toList σ1.files = none) :
    σ.append nm b = if 16777216 < b.length ∨ 1000 ≤ σ1.files.length then (3, σ1) else if σ1.room - used σ1.files < b.length then (7, σ1) else (0, { σ1 with files := insA nm.data.toList (b, 0) σ1.files }) := by
  unfold DS.append; rw [h]; simp only; rw [hl]; exact if_pos trivial
theorem begin1 (w : World) (B g : Nat) (σ : DS) (S : Nat → Prop) (nm : ByteArray) (h : IsDisk w B g σ S) (hs : nm.size ≤ 100000) :
    Calls Try.prog 28 #[.pointer (some ⟨g, 0, none⟩), .slice (some ⟨w.heap.size, 0, none⟩) 1 1] (w.alloc (.cells #[.string nm] 9))
      fun e w' => e = .returned (.int .i64 (σ.begin (nameOk nm)).1) ∧ IsDisk w' B g (σ.begin (nameOk nm)).2 S ∧ Fr (w.alloc (.cells #[.string nm] 9)) w' (fun k => k = g) := by
  have := begin_any (w.alloc (.cells #[.string nm] 9)) B g σ S ⟨w.heap.size, 0, none⟩ [nm] (h.below (alloc_below w _)) (names1 w nm) (by have := h.lt; simp only; omega) (by simp) (by intro s hm; simp at hm; subst hm; exact hs)
  rw [all1] at this
  exact this

theorem Disk1.len {w : World} {B g : Nat} {σ : DS} {S : Nat → Prop} {L : List FE} {mb : Nat} {A : Option Addr} {c : Nat} (h : Disk1 w B g σ S L mb A c) :
    (Builtin.len_ #[57] 3 #[.map (some mb)]).run Try.prog w = .ok (.int .i64 L.length) w := by
  have := h.own.len (t := 57) (e := 61) Try.underlying57 3
  rw [this]
  simp [Maps.size]

/-- A file more. -/
theorem Disk1.ins {w W : World} {B g : Nat} {σ : DS} {S : Nat → Prop} {L : List FE} {mb : Nat} {A : Option Addr} {c : Nat} (h : Disk1 w B g σ S L mb A c) {x : FE} (hB : B ≤ w.heap.size)
    (hW : ∀ k, k < w.heap.size → k ≠ g → k ≠ mb → W.heap[k]? = w.heap[k]?)
    (ht : W.heap[g]? = some (.cells #[.int .i64 σ.room, .map (some mb), .int .i64 (used (insA x.name (x.b, x.syn) σ.files)), .slice A σ.fails.length c, .int .i64 σ.failed] 59 (0, 0)))
    (hm : W.ownsMap Try.prog 9 ptrE mb (L.length + 1) (.map ((insF x L).map FE.ent)))
    (hx : W.heap[x.blk]? = some (.cells #[x.row, .int .i64 x.syn] 63 (0, 0))) (hb : w.heap.size ≤ x.blk)
    (hr : W.ownsRow B 5 1 x.row x.b.length (nums .u8 x.b)) (hl : ∀ k, x.row.ownBlock = some k → w.heap.size ≤ k) (hs : x.syn ≤ x.b.length) (hmx : x.b.length ≤ 16777216) (hL : L.length < 1000) :
    Disk1 W B g { σ with files := insA x.name (x.b, x.syn) σ.files } (fun k => S k ∨ w.heap.size ≤ k) (insF x L) mb A c := by
  have hother : ∀ y, y ∈ L → FileAt W B (fun k => S k ∨ w.heap.size ≤ k) y := by
    intro y hy
    obtain ⟨h1, h2, h3, h4, h5, h6⟩ := h.file y hy
    refine ⟨(hW y.blk (lt_of_block h1) (h.g_ne_blk hy) (h.map_ne_blk hy)).trans h1, row_heap h2 (fun k e => hW k (h2.lt k e).2 ?_ ?_), h3, .inl h4, fun k e => .inl (h5 k e), h6⟩
    · rintro rfl; exact h.row_ne_g hy e
    · rintro rfl; exact h.row_ne_map hy e
  have hself : FileAt W B (fun k => S k ∨ w.heap.size ≤ k) x := ⟨hx, hr, by omega, .inr hb, fun k e => .inr (hl k e), hs, hmx⟩
  have sym : ∀ a b : FE, (a.blk ≠ b.blk ∧ (a.row.ownBlock = none ∨ a.row.ownBlock ≠ b.row.ownBlock)) → (b.blk ≠ a.blk ∧ (b.row.ownBlock = none ∨ b.row.ownBlock ≠ a.row.ownBlock)) := by
    intro a b hab
    refine ⟨fun e => hab.1 e.symm, ?_⟩
    by_cases hb0 : b.row.ownBlock = none
    · exact .inl hb0
    · rcases hab.2 with h0 | h0
      · exact .inr (by rw [h0]; exact hb0)
      · exact .inr (fun e => h0 e.symm)
  refine ⟨by rw [ins_abs, h.abs], ht, by rw [length_insF]; exact hm, ?_, ?_, ?_, h.gB, .inl h.gS, h.mB, .inl h.mS, by rw [length_insF]; omega⟩
  · intro y hy
    rcases mem_insF.1 hy with rfl | hy
    · exact hself
    · exact hother y hy
  · refine pair_insF sym h.apart (fun y hy => ⟨fun e => ?_, ?_⟩)
    · have := lt_of_block (h.file y hy).1; omega
    · by_cases h0 : x.row.ownBlock = none
      · exact .inl h0
      · refine .inr (fun e => ?_)
        obtain ⟨k, hk⟩ := Option.ne_none_iff_exists'.1 h0
        have h1 := hl k hk
        have h2 := ((h.file y hy).2.1.lt k (by rw [← e]; exact hk)).2
        omega
  · obtain ⟨f1, f2, f3⟩ := h.fails
    refine ⟨f1, f2, ?_⟩
    rcases f3 with f3 | ⟨fb, off, cs, fr, e, hS, hB, hh, hc⟩
    · exact .inl f3
    · refine .inr ⟨fb, off, cs, fr, e, .inl hS, hB, (hW fb (lt_of_block hh) ?_ ?_).trans hh, hc⟩
      · rintro rfl; rw [h.top] at hh; simp at hh
      · rintro rfl; obtain ⟨es, clock, hb', _⟩ := h.own; rw [hb'] at hh; simp at hh

set_option maxHeartbeats 4000000 in
set_option maxRecDepth 100000 in
theorem append_any (w : World) (B g : Nat) (σ : DS) (S : Nat → Prop) (nm : ByteArray) (Ab : Option Addr) (m cb : Nat) (b : List Int) (h : IsDisk w B g σ S) (hs : nm.size ≤ 100000) (hroom : 0 ≤ σ.room ∧ σ.room ≤ 9223372036854775807) (hBw : B ≤ w.heap.size)
    (hb : Rd w .u8 Ab m cb b) (hbS : ∀ ad, Ab = some ad → 0 < m → ¬ S ad.block) :
    Calls Try.prog 11 #[.pointer (some ⟨g, 0, none⟩), .string nm, .slice Ab m cb] w fun e w' => e = .returned (.int .i64 (σ.append nm b).1) ∧ Post B g S (σ.append nm b).2 w w' := by
  have Ho := Kp.mk (begin1 w B g σ S nm h hs)
  have HS := Kp.mk h.gS
  have hroom' : 0 ≤ (σ.begin (nameOk nm)).2.room ∧ (σ.begin (nameOk nm)).2.room ≤ 9223372036854775807 := by
    unfold DS.begin; split
    · exact hroom
    · split <;> exact hroom
  have hmx := hb.max
  have hml := hb.len
  have HRb := Kp.mk hb
  have HbS := Kp.mk hbS
  have hg0 := h.lt
  clear h hb hbS hroom
  go_enter Try.func11, Try.ntmps11
  go_wp2_with fail
  refine Ho.out.mono ?_
  rintro e w1 ⟨rfl, ⟨L, mb, A, c, hd⟩, hf⟩
  have HF := Kp.mk (fr_g (alloc_below w _) hf HS.out)
  have HAp : Kp (σ.append nm b = σ.append nm b) := ⟨rfl⟩
  generalize hr : σ.begin (nameOk nm) = r at *
  obtain ⟨e0, σ1⟩ := r
  simp only at hroom' hd
  have Hr := Kp.mk hr
  by_cases he : e0 = 0
  · subst he
    obtain ⟨hr0, hr1⟩ := hroom'
    have hub := hd.usedBound
    obtain ⟨hu0, hu1⟩ := hub
    have c0 := cells_top hd.top 0 _ rfl
    have c1 := cells_top hd.top 1 _ rfl
    have c2 := cells_top hd.top 2 _ rfl
    have f2 := free_top hd.top 2
    have hlk := hd.lookup nm hs
    cases hp : findF nm.data.toList L with
    | some x =>
      have hm := mem_find hp
      have e1 : ptrOf nm.data.toList L = some x.blk := by rw [ptrOf, hp]; rfl
      rw [e1] at hlk
      simp only [pv] at hlk
      have hfile := hd.file x hm.1
      obtain ⟨Ar, cr, hrow⟩ := row_slice hfile.2.1
      have b0 := cells_top hfile.1 0 _ rfl
      rw [hrow] at b0
      have hxl := hfile.2.2.2.2.2.2
      have HD := Kp.mk hd
      have Hm := Kp.mk hm
      have Hfile := Kp.mk hfile
      have Hrow := Kp.mk hrow
      have Hlk := Kp.mk (show lookA nm.data.toList σ1.files = some (x.b, x.syn) by rw [hd.look, hp]; rfl)
      clear hd hf Ho e1 hp hm hfile hrow hr
      by_cases hA : 16777216 < x.b.length + m
      · have hA' : (16777216 : Int) - x.b.length < m := by omega
        have Hap : Kp (σ.append nm b = (3, σ1)) := ⟨by rw [append_some b Hr.out Hlk.out, if_pos (by rw [hml]; exact hA)]⟩
        go_wp2
        go_ret
        rw [Hap.out]
        exact ⟨rfl, IsDisk.wide ⟨L, mb, A, c, HD.out⟩ _, HF.out⟩
      · have hA' : ¬ ((16777216 : Int) - x.b.length < m) := by omega
        by_cases hR : σ1.room - used σ1.files < m
        · have Hap : Kp (σ.append nm b = (7, σ1)) := ⟨by rw [append_some b Hr.out Hlk.out, if_neg (by rw [hml]; exact hA), if_pos (by rw [hml]; exact hR)]⟩
          go_wp2
          go_quiet (fail)
          go_wp2
          go_ret
          rw [Hap.out]
          exact ⟨rfl, (IsDisk.wide ⟨L, mb, A, c, HD.out⟩ _).heap (fun _ _ _ => rfl), HF.out.drewN _⟩
        · have Hap : Kp (σ.append nm b = (0, { σ1 with files := setA x.name (x.b ++ b, x.syn) σ1.files })) := ⟨by rw [append_some b Hr.out Hlk.out, if_neg (by rw [hml]; exact hA), if_neg (by rw [hml]; exact hR), Hm.out.2]⟩
          have Hu : Kp (used (setA x.name (x.b ++ b, x.syn) σ1.files) = used σ1.files + m) := ⟨by
            rw [used_set x.name (x.b ++ b, x.syn) (x.b, x.syn) _ HD.out.uniq (by rw [Hm.out.2]; exact Hlk.out)]; simp only [List.length_append]; omega⟩
          have Hml := Kp.mk hml
          have HB : Kp (B ≤ w1.heap.size) := ⟨Nat.le_trans hBw HF.out.size⟩
          clear hml
          go_wp2
          go_quiet (fail)
          go_wp2_with (at_builtin; refine wpList_append_rd _ rfl (.tmp 75) (.tmp 76) 26 5 .u8 1 B rfl Try.underlying26 Try.infoU8 (by decide) _ x.b.length m cb x.b b Ab rfl rfl (row_heap (Hrow.out ▸ Hfile.out.2.1) (fun _ _ => rfl)) (HRb.out.kept (HF.out.drewN _) HbS.out) (by omega) HB.out ?_; intro A' c' w2 hown2 hg2 hat2; have hxb := (hg2.block x.blk (lt_of_block Hfile.out.1) (fun e => HD.out.row_ne_blk Hm.out.1 Hm.out.1 (by rw [Hrow.out]; exact e.symm))).trans Hfile.out.1; have b0' := cells_top hxb 0 _ rfl; have f0' := free_top hxb 0; have hgt := (hg2.block g (lt_of_block HD.out.top) (fun e => HD.out.row_ne_g Hm.out.1 (by rw [Hrow.out]; exact e.symm))).trans HD.out.top; have c2' := cells_top hgt 2 _ rfl; have f2' := free_top hgt 2; have Hown2 := Kp.mk hown2; have Hg2 := Kp.mk hg2; have Hat2 := Kp.mk hat2; have Hxb := Kp.mk hxb; have Hgt := Kp.mk hgt; clear hown2 hg2 hat2 hxb hgt)
          go_ret
          have hW := Disk1.upd (W := (w2.setCell ⟨x.blk, 0, none⟩ (.slice A' (x.b.length + m) c')).setCell ⟨g, 2, none⟩ (.int .i64 (used σ1.files + m))) (x' := { x with row := .slice A' (x.b.length + m) c', b := x.b ++ b }) (HD.out.heap (W := w1.drewN _) (fun _ _ _ => rfl)) Hm.out.1 rfl rfl
            (fun k hk1 hk2 hk3 hk4 => by rw [setCell_heap _ _ _ _ _ hk2, setCell_heap _ _ _ _ _ hk3]; exact Hg2.out.block k hk1 (fun e => hk4 (by rw [Hrow.out]; exact e.symm)))
            (by rw [heap_setCell_same _ _ _ _ _ _ ((setCell_heap _ _ _ _ _ (fun e => HD.out.g_ne_blk Hm.out.1 e.symm)).trans Hgt.out), Hu.out]; rfl)
            (by rw [setCell_heap _ _ _ _ _ (HD.out.g_ne_blk Hm.out.1), heap_setCell_same _ _ _ _ _ _ Hxb.out]; rfl)
            (row_heap (v := .slice A' (x.b.length + m) c') (by rw [List.length_append, Hml.out]; exact Hown2.out) (fun k e => by
              rw [setCell_heap _ _ _ _ _ (fun e1 => by rw [e1] at e; have := row_ty Hown2.out e Hgt.out; simp at this), setCell_heap _ _ _ _ _ (fun e1 => by rw [e1] at e; have := row_ty Hown2.out e Hxb.out; simp at this)]))
            (by rw [Hrow.out]; exact Hat2.out) (by have := Hfile.out.2.2.2.2.2.1; simp only [List.length_append]; omega) (by simp only [List.length_append]; rw [Hml.out]; omega)
          rw [Hap.out]
          refine ⟨rfl, IsDisk.mono ⟨_, mb, A, c, hW⟩ (fun k _ hk => hk.imp id (fun h => Nat.le_trans HF.out.size h)), ?_⟩
          exact (((HF.out.drewN _).grown Hg2.out (fun k e => .inl (Hfile.out.2.2.2.2.1 k (by rw [Hrow.out]; exact e)))).setCell (a := ⟨x.blk, 0, none⟩) (.inl Hfile.out.2.2.2.1) _).setCell (a := ⟨g, 2, none⟩) (.inl HS.out) _
    | none =>
      have e1 : ptrOf nm.data.toList L = none := by rw [ptrOf, hp]; rfl
      rw [e1] at hlk
      simp only [pv] at hlk
      have hlen := hd.len
      have HD := Kp.mk hd
      have Hp := Kp.mk hp
      have Hlk := Kp.mk (show lookA nm.data.toList σ1.files = none by rw [hd.look, hp]; rfl)
      have HfL := Kp.mk (show σ1.files.length = L.length by rw [← hd.abs, List.length_map])
      have Hkey := Kp.mk (WideMaps.keyOf_string_mk Try.underlying9 (by unfold maxLen; omega) : keyOf Try.prog 9 (.string nm) = some (.string nm.data.toList))
      clear hd hf Ho e1 hp hr
      by_cases hA : 16777216 < m
      · have hA' : (16777216 : Int) < m := by omega
        have Hap : Kp (σ.append nm b = (3, σ1)) := ⟨by rw [append_none b Hr.out Hlk.out, if_pos (.inl (by rw [hml]; exact hA))]⟩
        go_wp2
        go_ret
        rw [Hap.out]
        exact ⟨rfl, IsDisk.wide ⟨L, mb, A, c, HD.out⟩ _, HF.out⟩
      · have hA' : ¬ ((16777216 : Int) < m) := by omega
        by_cases hN : 1000 ≤ L.length
        · have Hap : Kp (σ.append nm b = (3, σ1)) := ⟨by rw [append_none b Hr.out Hlk.out, if_pos (.inr (by rw [HfL.out]; exact hN))]⟩
          go_wp2
          go_ret
          rw [Hap.out]
          exact ⟨rfl, IsDisk.wide ⟨L, mb, A, c, HD.out⟩ _, HF.out⟩
        · by_cases hR : σ1.room - used σ1.files < m
          · have Hap : Kp (σ.append nm b = (7, σ1)) := ⟨by rw [append_none b Hr.out Hlk.out, if_neg (by rw [hml, HfL.out]; omega), if_pos (by rw [hml]; exact hR)]⟩
            go_wp2
            go_quiet (fail)
            go_wp2
            go_ret
            rw [Hap.out]
            exact ⟨rfl, (IsDisk.wide ⟨L, mb, A, c, HD.out⟩ _).heap (fun _ _ _ => rfl), HF.out.drewN _⟩
          · have Hap : Kp (σ.append nm b = (0, { σ1 with files := insA nm.data.toList (b, 0) σ1.files })) := ⟨by rw [append_none b Hr.out Hlk.out, if_neg (by rw [hml, HfL.out]; omega), if_neg (by rw [hml]; exact hR)]⟩
            have Hu : Kp (used (insA nm.data.toList (b, 0) σ1.files) = used σ1.files + m) := ⟨by rw [used_ins]; simp only; omega⟩
            have Hml := Kp.mk hml
            have HB : Kp (B ≤ w1.heap.size) := ⟨Nat.le_trans hBw HF.out.size⟩
            have hgl : g < w1.heap.size := lt_of_block HD.out.top
            have c1a : ∀ n o, ((w1.drewN n).alloc o).cell? ⟨g, 1, none⟩ = some (.map (some mb)) := fun n o => (World.cell?_alloc_lt (w1.drewN n) _ _ hgl).trans c1
            clear hml
            go_wp2
            go_quiet (fail)
            go_wp2_with (first
              | (at_mapUpdate; refine wpList_mapUpdate_own _ rfl _ _ _ 57 rfl 9 61 law9 Try.underlying57 ptrE mb L.length (.map (L.map FE.ent)) rfl (map_heap (w := w1) HD.out.own (Below.heap_alloc (w1.drewN _) _ mb HD.out.own.lt)) (by unfold maxLen; omega) _ _ _ rfl rfl Hkey.out (.held w1.heap.size) [] rfl ?_; intro w2 hown2 hg2; have hxb := (hg2.block w1.heap.size (by simp) (fun e => by have := HD.out.own.lt; injection e with e; omega)).trans (heap_alloc_new (w1.drewN _) _); have hgt := (hg2.block g (by simp; omega) (fun e => HD.out.g_ne_map (by injection e with e; exact e.symm))).trans ((Below.heap_alloc (w1.drewN _) _ g hgl).trans HD.out.top); have b0 := cells_top hxb 0 _ rfl; have Hown2 := Kp.mk hown2; have Hg2 := Kp.mk hg2; have Hxb := Kp.mk hxb; have Hgt := Kp.mk hgt; clear hown2 hg2 hxb hgt)
              | (at_builtin; refine wpList_append_rd _ rfl (.tmp 75) (.tmp 76) 26 5 .u8 1 B rfl Try.underlying26 Try.infoU8 (by decide) (.slice none 0 0) 0 m cb [] b Ab rfl rfl (World.ownsRow_nil _ _ _ _) (HRb.out.kept (((HF.out.drewN _).alloc _).grown Hg2.out (fun k e => by injection e with e; exact .inl (e ▸ HD.out.mS))) HbS.out) (by omega) (Nat.le_trans HB.out (Nat.le_trans (Nat.le_succ _) (by have := Hg2.out.size; simpa using this))) ?_; intro A' c' w3 hown3 hg3 hat3; simp only [Nat.zero_add, List.nil_append] at hown3 hat3 ⊢; have hxb3 := (hg3.block w1.heap.size (lt_of_block Hxb.out) (by simp [Value.ownBlock])).trans Hxb.out; have hgt3 := (hg3.block g (lt_of_block Hgt.out) (by simp [Value.ownBlock])).trans Hgt.out; have b03 := cells_top hxb3 0 _ rfl; have f03 := free_top hxb3 0; have c23 := cells_top hgt3 2 _ rfl; have f23 := free_top hgt3 2; have Hown3 := Kp.mk hown3; have Hg3 := Kp.mk hg3; have Hat3 := Kp.mk hat3; have Hxb3 := Kp.mk hxb3; have Hgt3 := Kp.mk hgt3; clear hown3 hg3 hat3 hxb3 hgt3))
            go_ret
            have hlt : w1.heap.size < ((w1.drewN nq).alloc (.cells #[.slice none 0 0, .int .i64 0] 63)).heap.size := by simp
            have hW := Disk1.ins (W := (w3.setCell ⟨w1.heap.size, 0, none⟩ (.slice A' m c')).setCell ⟨g, 2, none⟩ (.int .i64 (used σ1.files + m))) (x := { name := nm.data.toList, blk := w1.heap.size, row := .slice A' m c', b := b, syn := 0 }) (HD.out.heap (W := w1.drewN nq) (fun _ _ _ => rfl)) HB.out
              (fun k hk1 hk2 hk3 => by
                replace hk1 : k < w1.heap.size := hk1
                rw [setCell_heap _ _ _ _ _ hk2, setCell_heap _ _ _ _ _ (Nat.ne_of_lt hk1), Hg3.out.block k (Nat.lt_of_lt_of_le (Nat.lt_trans hk1 hlt) Hg2.out.size) (by simp [Value.ownBlock]), Hg2.out.block k (Nat.lt_trans hk1 hlt) (fun e => hk3 (by injection e)), Below.heap_alloc (w1.drewN nq) _ k hk1])
              (by rw [heap_setCell_same _ _ _ _ _ _ ((setCell_heap _ _ _ _ _ (Nat.ne_of_lt hgl)).trans Hgt3.out), Hu.out]; rfl)
              (by
                have h1 := Hown2.out
                rw [put_ent { name := nm.data.toList, blk := w1.heap.size, row := .slice A' m c', b := b, syn := 0 } Hp.out rfl] at h1
                refine map_heap h1 ?_
                rw [setCell_heap _ _ _ _ _ HD.out.g_ne_map, setCell_heap _ _ _ _ _ (Nat.ne_of_lt HD.out.own.lt), Hg3.out.block mb Hown2.out.lt (by simp [Value.ownBlock])])
              (by rw [setCell_heap _ _ _ _ _ (Nat.ne_of_gt hgl), heap_setCell_same _ _ _ _ _ _ Hxb3.out]; rfl) (Nat.le_refl _)
              (row_heap (v := .slice A' m c') (by rw [Hml.out]; exact Hown3.out) (fun k e => by
                rw [setCell_heap _ _ _ _ _ (fun e1 => by rw [e1] at e; have := row_ty Hown3.out e Hgt3.out; simp at this), setCell_heap _ _ _ _ _ (fun e1 => by rw [e1] at e; have := row_ty Hown3.out e Hxb3.out; simp at this)]))
              (fun k e => by
                rcases Hat3.out with h0 | ⟨q, hq, hle⟩
                · rw [e] at h0; cases h0
                · rw [e] at hq; injection hq with hq; subst hq; exact Nat.le_trans (Nat.le_of_lt hlt) (Nat.le_trans Hg2.out.size hle))
              (Nat.zero_le _) (by simp only; rw [Hml.out]; omega) (by omega)
            rw [Hap.out]
            refine ⟨rfl, IsDisk.mono ⟨_, mb, A, c, hW⟩ (fun k _ hk => hk.imp id (fun h => Nat.le_trans HF.out.size h)), ?_⟩
            exact (((((HF.out.drewN _).alloc _).grown Hg2.out (fun k e => by injection e with e; exact .inl (e ▸ HD.out.mS))).grown Hg3.out (fun k e => by simp [Value.ownBlock] at e)).setCell (a := ⟨w1.heap.size, 0, none⟩) (.inr HF.out.size) _).setCell (a := ⟨g, 2, none⟩) (.inl HS.out) _
  · have hne : (e0 != 0) = true := by simpa using he
    have HD := Kp.mk hd
    have Hap : Kp (σ.append nm b = (e0, σ1)) := ⟨append_err b Hr.out he⟩
    clear hd hf he hr
    go_wp2
    go_ret
    rw [Hap.out]
    exact ⟨rfl, IsDisk.wide ⟨L, mb, A, c, HD.out⟩ _, HF.out⟩
end Go.Proofs.Ytgeklapphkgdkaa.Dsk
