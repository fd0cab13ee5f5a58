import Derived.Test.YtgfkpddmjcgceaaVrF
set_option linter.unusedVariables false
set_option linter.unusedSimpArgs false
namespace Go.Proofs.Ytgfkpddmjcgceaa.Kx
open Go.RowKit Go.Maps Go.Proofs.YtgfkpddmjcgceaaW.PrintWords

/-- May a version be? -/
def vHead (n : Nat) (nx lg sq : Int) : Prop := n ≤ 1000 ∧ 1 ≤ nx ∧ nx ≤ 1099511627776 ∧ 0 ≤ lg ∧ lg ≤ 1099511627776 ∧ sq ≤ 72057594037927935
def aboveOf (rs : List Rn) (sq : Int) : Nat → Int
  | 0 => sq
  | i + 1 => (rs.getD i zRn).seq - 1
def rowOk (rs : List Rn) (nx sq : Int) (i : Nat) : Prop := rnOk (rs.getD i zRn) ∧ (rs.getD i zRn).file < nx ∧ (rs.getD i zRn).seq ≤ aboveOf rs sq i
def VOk (rs : List Rn) (nx lg sq : Int) : Prop := vHead rs.length nx lg sq ∧ OnceP (rs.map Rn.file) ∧ ∀ i, i < rs.length → rowOk rs nx sq i

set_option maxHeartbeats 4000000 in
set_option maxRecDepth 100000 in
theorem version_right {w : World} {A : Option Addr} {c : Nat} {rs : List Rn} (nx lg sq : Int) (h : kRn.C w A rs.length rs) (hsq : 0 ≤ sq) :
    Calls Try.prog 16 #[.agg #[.slice A rs.length c, .int .i64 nx, .int .i64 lg, .int .u64 sq]] w (AnyQ (VOk rs nx lg sq) w) := by
  obtain ⟨n, hn⟩ : ∃ n, n = rs.length := ⟨_, rfl⟩
  rw [← hn] at h ⊢
  have Hn := Kp.mk hn
  have H := Kp.mk h
  have hmm := @run_makeMap Try.prog
  by_cases hd : vHead n nx lg sq
  · have Hd := Kp.mk hd
    obtain ⟨d1, d2, d3, d4, d5, d6⟩ := hd
    clear h hn
    go_enter Try.func16, Try.ntmps16
    go_wp2_with fail
    clear hmm
    go_loopw [42, 4] (fun i u wr => ∃ (k : Nat) (a : Int), k ≤ n ∧ 0 ≤ a ∧ a ≤ 72057594037927935 ∧ i = .int .i64 k ∧ u = .int .u64 a ∧ Kp (a = aboveOf rs sq k) ∧ Kp (∀ j, j < k → rowOk rs nx sq j) ∧ Kp (∀ j, j < k → (rs.map Rn.file).getD j 0 ∉ (rs.map Rn.file).take j) ∧ Kp (OwnSet wr (w.heap.size + 1) ((rs.map Rn.file).take k)) ∧ Kp (wr.heap[w.heap.size]? = some (.cells #[.slice A n c, .int .i64 nx, .int .i64 lg, .int .u64 sq] 27 (0, 0))) ∧ Kp (Below w.heap.size w wr)) (fun i _ _ => n - (intOf i).toNat)
    case atStart => exact ⟨0, sq, Nat.zero_le _, hsq, d6, rfl, rfl, ⟨rfl⟩, ⟨by omega⟩, ⟨by omega⟩, ⟨OwnSet.made' (by simp)⟩, ⟨heap_newb (alloc_below _ _)⟩, ⟨(alloc_below w _).alloc (by simp) _⟩⟩
    case round =>
      obtain ⟨k, a, hk, ha0, ha1, rfl, rfl, HA, HN1, HN2, HS1, HX, HB⟩ := hrel
      by_cases hlt : k < n
      · obtain ⟨ad, A3, c3, A4, c4, rfl, c0, c1, c2, c3', c4', c5, _, g3, _, g4⟩ := rn_at (Kd.C_below H.out HB.out) k hlt
        have Hf := Kp.mk (map_getD_file rs k (by have := Hn.out; omega))
        obtain ⟨r, hr⟩ : ∃ r, rs.getD k zRn = r := ⟨_, rfl⟩
        rw [hr] at c0 c1 c2 c3' c4' c5 g3 g4 Hf
        have Hr := Kp.mk hr
        have G3 := Kp.mk g3
        have G4 := Kp.mk g4
        obtain ⟨fs, hfs⟩ : ∃ fs, fs = rs.map Rn.file := ⟨_, rfl⟩
        rw [← hfs] at HN2 HS1 Hf
        have Hfs := Kp.mk hfs
        have HWs := Kp.mk HB.out.size
        clear hr g3 g4 hfs
        by_cases e1 : rnOk r
        · have hd1 : Kp (decide (rnOk r) = true) := ⟨decide_eq_true e1⟩
          have hwf := wf_file (x := r.file) (by have := e1.1; omega) e1.2.1
          have Hwf := Kp.mk hwf
          have He1 := Kp.mk e1
          have hs1 : 1 ≤ r.seq := e1.2.2.2.2.2.2.2.2.2.2.2.1
          have hs2 : r.seq ≤ 72057594037927935 := e1.2.2.2.2.2.2.2.2.2.2.2.2
          clear e1 hwf
          by_cases e2 : r.file ∈ fs.take k
          · have hd2 : Kp (decide (r.file ∈ fs.take k) = true) := ⟨decide_eq_true e2⟩
            have hv : Kp (false = true ↔ VOk rs nx lg sq) := ⟨⟨(fun h => by cases h), fun h => absurd e2 (by have := h.2.1 k (by rw [List.length_map, ← Hn.out]; exact hlt); rwa [← Hfs.out, Hf.out] at this)⟩⟩
            clear e2
            go_wp2_with (first
              | (go_at_call 33; refine (edit_run (r := r) (Kd.C_alloc G3.out _) (Kd.C_alloc G4.out _)).mono ?_; rintro e w1 ⟨rfl, hb1⟩; rw [hd1.out]; have cf := cell_newb hb1 0 _ rfl; have HS1' := Kp.mk ((HS1.out.below (alloc_below wr _)).below hb1); have HB1 := Kp.mk (below_then (below_alloc (Below.refl _ _) _) (by simp) hb1); clear hb1)
              | (at_lookup; refine wpList_set_look rfl _ _ rfl (w.heap.size + 1) (fs.take k) r.file rfl HS1'.out rfl Hwf.out ?_; rw [hd2.out]))
            go_ret
            exact ⟨_, rfl, hv.out, below_then HB.out HWs.out HB1.out⟩
          · have hd2 : Kp (decide (r.file ∈ fs.take k) = false) := ⟨decide_eq_false e2⟩
            have He2 := Kp.mk e2
            clear e2
            by_cases e34 : r.file < nx ∧ r.seq ≤ a
            · obtain ⟨e3, e4⟩ := e34
              have hv1 : Kp (∀ j, j < k + 1 → rowOk rs nx sq j) := ⟨fun j hj => by
                by_cases hjk : j = k
                · subst hjk; unfold rowOk; rw [Hr.out, ← HA.out]; exact ⟨He1.out, e3, e4⟩
                · exact HN1.out j (by omega)⟩
              have hv2 : Kp (∀ j, j < k + 1 → fs.getD j 0 ∉ fs.take j) := ⟨fun j hj => by
                by_cases hjk : j = k
                · subst hjk; rw [Hf.out]; exact He2.out
                · exact HN2.out j (by omega)⟩
              have hva : Kp (r.seq - 1 = aboveOf rs sq (k + 1)) := ⟨by show r.seq - 1 = (rs.getD k zRn).seq - 1; rw [Hr.out]⟩
              have hfk : Kp (fs.take (k + 1) = fs.take k ++ [r.file]) := ⟨by
                have hl : k < fs.length := by rw [Hfs.out, List.length_map, ← Hn.out]; exact hlt
                rw [List.take_succ_eq_append_getElem hl]
                have := Hf.out
                simp only [List.getD, List.getElem?_eq_getElem hl, Option.getD_some] at this
                rw [this]⟩
              have hfl : Kp ((fs.take k).length < 100000) := ⟨by rw [List.length_take]; omega⟩
              go_wp2_with (first
                | (go_at_call 33; refine (edit_run (r := r) (Kd.C_alloc G3.out _) (Kd.C_alloc G4.out _)).mono ?_; rintro e w1 ⟨rfl, hb1⟩; rw [hd1.out]; have cf := cell_newb hb1 0 _ rfl; have cf5 := cell_newb hb1 5 _ rfl; have HS1' := Kp.mk ((HS1.out.below (alloc_below wr _)).below hb1); have F1 := Kp.mk ((((Fr.refl wr (fun q => q = w.heap.size + 1)).alloc _).below hb1)); have hx0 := (F1.out.block w.heap.size (lt_of_block HX.out) (by omega)).trans HX.out; have cx1 := cells_top hx0 1 _ rfl; clear hx0; have HN := Kp.mk (heap_newb hb1); have HL := Kp.mk (lt_of_block HX.out); clear hb1)
                | (at_lookup; refine wpList_set_look rfl _ _ rfl (w.heap.size + 1) (fs.take k) r.file rfl HS1'.out rfl Hwf.out ?_; rw [hd2.out])
                | (at_mapUpdate; refine wpList_set_put rfl _ _ _ rfl (w.heap.size + 1) (fs.take k) r.file rfl HS1'.out rfl rfl Hwf.out hfl.out ?_; intro w2 hO2 hg2; have cf' := cells_top ((hg2.block wr.heap.size (lt_of_block HN.out) (by have := HS1.out.lt; simp; omega)).trans HN.out) 5 _ rfl; have HO2 := Kp.mk hO2; have F2 := Kp.mk (F1.out.grown hg2 (fun q e => by cases e; exact .inl rfl)); clear hO2 hg2))
              have hx := (F2.out.block w.heap.size (lt_of_block HX.out) (by omega)).trans HX.out
              have hb2 := HB.out.trans (F2.out.toBelow (B := w.heap.size) (fun q hq => by omega) HWs.out)
              rw [← hfk.out] at HO2
              rw [Hfs.out] at HO2 hv2
              go_roundw
              case rel => exact ⟨k + 1, r.seq - 1, by omega, by omega, by omega, by go_num, rfl, hva, hv1, hv2, HO2, ⟨hx⟩, ⟨hb2⟩⟩
              case measure => simp [intOf]; omega
            · have hv : Kp (false = true ↔ VOk rs nx lg sq) := ⟨⟨(fun h => by cases h), fun h => by
                have := h.2.2 k (by rw [← Hn.out]; exact hlt)
                unfold rowOk at this
                rw [Hr.out, ← HA.out] at this
                exact absurd this.2 e34⟩⟩
              by_cases e3 : r.file < nx
              · have e4 : a < r.seq := by omega
                clear e34
                go_wp2_with (first
                  | (go_at_call 33; refine (edit_run (r := r) (Kd.C_alloc G3.out _) (Kd.C_alloc G4.out _)).mono ?_; rintro e w1 ⟨rfl, hb1⟩; rw [hd1.out]; have cf := cell_newb hb1 0 _ rfl; have cf5 := cell_newb hb1 5 _ rfl; have HS1' := Kp.mk ((HS1.out.below (alloc_below wr _)).below hb1); have F1 := Kp.mk ((((Fr.refl wr (fun q => q = w.heap.size + 1)).alloc _).below hb1)); have hx0 := (F1.out.block w.heap.size (lt_of_block HX.out) (by omega)).trans HX.out; have cx1 := cells_top hx0 1 _ rfl; clear hx0; have HB1 := Kp.mk (below_then (below_alloc (Below.refl _ _) _) (by simp) hb1); clear hb1)
                  | (at_lookup; refine wpList_set_look rfl _ _ rfl (w.heap.size + 1) (fs.take k) r.file rfl HS1'.out rfl Hwf.out ?_; rw [hd2.out]))
                go_ret
                exact ⟨_, rfl, hv.out, below_then HB.out HWs.out HB1.out⟩
              · have e4 : nx ≤ r.file := by omega
                clear e34 e3
                go_wp2_with (first
                  | (go_at_call 33; refine (edit_run (r := r) (Kd.C_alloc G3.out _) (Kd.C_alloc G4.out _)).mono ?_; rintro e w1 ⟨rfl, hb1⟩; rw [hd1.out]; have cf := cell_newb hb1 0 _ rfl; have cf5 := cell_newb hb1 5 _ rfl; have HS1' := Kp.mk ((HS1.out.below (alloc_below wr _)).below hb1); have F1 := Kp.mk ((((Fr.refl wr (fun q => q = w.heap.size + 1)).alloc _).below hb1)); have hx0 := (F1.out.block w.heap.size (lt_of_block HX.out) (by omega)).trans HX.out; have cx1 := cells_top hx0 1 _ rfl; clear hx0; have HB1 := Kp.mk (below_then (below_alloc (Below.refl _ _) _) (by simp) hb1); clear hb1)
                  | (at_lookup; refine wpList_set_look rfl _ _ rfl (w.heap.size + 1) (fs.take k) r.file rfl HS1'.out rfl Hwf.out ?_; rw [hd2.out]))
                go_ret
                exact ⟨_, rfl, hv.out, below_then HB.out HWs.out HB1.out⟩
        · have hd1 : Kp (decide (rnOk r) = false) := ⟨decide_eq_false e1⟩
          have hv : Kp (false = true ↔ VOk rs nx lg sq) := ⟨⟨(fun h => by cases h), fun h => absurd (h.2.2 k (by rw [← Hn.out]; exact hlt)).1 (by rw [Hr.out]; exact e1)⟩⟩
          clear e1
          go_wp2_with (first
            | (go_at_call 33; refine (edit_run (r := r) (Kd.C_alloc G3.out _) (Kd.C_alloc G4.out _)).mono ?_; rintro e w1 ⟨rfl, hb1⟩; rw [hd1.out]; have HB1 := Kp.mk (below_then (below_alloc (Below.refl _ _) _) (by simp) hb1); clear hb1))
          go_ret
          exact ⟨_, rfl, hv.out, below_then HB.out HWs.out HB1.out⟩
      · have hkn : k = n := by omega
        have hv : Kp (∀ b : Bool, b = true → (b = true ↔ VOk rs nx lg sq)) := ⟨fun b hb => ⟨fun _ => ⟨by rw [← Hn.out]; exact Hd.out, fun j hj => HN2.out j (by rw [hkn, Hn.out]; rwa [List.length_map] at hj), fun j hj => HN1.out j (by rw [hkn, Hn.out]; exact hj)⟩, fun _ => hb⟩⟩
        clear hkn
        go_wp2_with fail
        go_ret
        exact ⟨true, rfl, hv.out true rfl, HB.out⟩
  · go_enter Try.func16, Try.ntmps16
    go_wp2_with fail
    all_goals
      first
      | (exfalso; refine hd ?_; unfold vHead; omega)
      | (go_ret; exact ⟨_, rfl, ⟨(fun h => by cases h), fun h => absurd (by rw [Hn.out]; exact h.1) hd⟩, alloc_below _ _⟩)
end Go.Proofs.Ytgfkpddmjcgceaa.Kx
