import Derived.Test.YtgfkpddmjcgceaaVrB
import Derived.Test.YtgfkpddmjcgceaaVrD
import Derived.Test.YtgfkpddmjcgceaaVrE
import Derived.Test.YtgfkpddmjcgceaaKaD
import Derived.Test.YtgfkpddmjcgceaaKaE
set_option linter.unusedVariables false
set_option linter.unusedSimpArgs false
namespace Go.Proofs.Ytgfkpddmjcgceaa.Kx
open Go.RowKit Go.Maps Go.Proofs.YtgfkpddmjcgceaaW.PrintWords
attribute [local go_sem] max2_int min2_int max_two min_two

/-- May an edit be? -/
def eHead (n m : Nat) (nx lg sq : Int) : Prop := n ≤ 100 ∧ m ≤ 100 ∧ 0 ≤ nx ∧ nx ≤ 1099511627776 ∧ 0 ≤ lg ∧ lg ≤ 1099511627776 ∧ sq ≤ 72057594037927935
def EOk (add : List Rn) (drop : List Int) (nx lg sq : Int) : Prop :=
  eHead add.length drop.length nx lg sq ∧ OnceP (add.map Rn.file) ∧ (∀ i, i < add.length → rnOk (add.getD i zRn)) ∧ OnceP drop ∧ ∀ i, i < drop.length → 1 ≤ drop.getD i 0 ∧ drop.getD i 0 ≤ 1099511627776
theorem map_getD_file (rs : List Rn) (i : Nat) (hi : i < rs.length) : (rs.map Rn.file).getD i 0 = (rs.getD i zRn).file := by simp [List.getD, hi]

set_option maxHeartbeats 4000000 in
set_option maxRecDepth 100000 in
theorem edit_right {w : World} {A A' : Option Addr} {c c' : Nat} {add : List Rn} {drop : List Int} (nx lg sq : Int) (h : kRn.C w A add.length add) (h' : (Kd.int .i64).C w A' drop.length drop) :
    Calls Try.prog 21 #[.agg #[.slice A add.length c, .slice A' drop.length c', .int .i64 nx, .int .i64 lg, .int .u64 sq]] w (AnyQ (EOk add drop nx lg sq) w) := by
  obtain ⟨n, hn⟩ : ∃ n, n = add.length := ⟨_, rfl⟩
  obtain ⟨m, hm⟩ : ∃ m, m = drop.length := ⟨_, rfl⟩
  rw [← hn] at h ⊢
  rw [← hm] at h' ⊢
  have Hn := Kp.mk hn
  have Hm := Kp.mk hm
  have H := Kp.mk h
  have H' := Kp.mk h'
  have hmm := @run_makeMap Try.prog
  by_cases hd : eHead n m nx lg sq
  · have Hd := Kp.mk hd
    obtain ⟨d1, d2, d3, d4, d5, d6, d7⟩ := hd
    clear h h' hn hm
    go_enter Try.func21, Try.ntmps21
    go_wp2_with fail
    clear hmm
    go_loopw [45] (fun i wr => ∃ k : Nat, k ≤ n ∧ i = .int .i64 k ∧ Kp (∀ j, j < k → rnOk (add.getD j zRn)) ∧ Kp (∀ j, j < k → (add.map Rn.file).getD j 0 ∉ (add.map Rn.file).take j) ∧ Kp (OwnSet wr (w.heap.size + 1) ((add.map Rn.file).take k)) ∧ Kp (OwnSet wr (w.heap.size + 1 + 1) []) ∧ Kp (wr.heap[w.heap.size]? = some (.cells #[.slice A n c, .slice A' m c', .int .i64 nx, .int .i64 lg, .int .u64 sq] 31 (0, 0))) ∧ Kp (Below w.heap.size w wr)) (fun i _ => n - (intOf i).toNat)
    case atStart => exact ⟨0, Nat.zero_le _, rfl, ⟨by omega⟩, ⟨by omega⟩, ⟨(OwnSet.made' (by simp)).below (alloc_below _ _)⟩, ⟨OwnSet.made' (by simp)⟩, ⟨heap_newb ((alloc_below _ _).alloc (by simp) _)⟩, ⟨((alloc_below w _).alloc (by simp) _).alloc (by simp; omega) _⟩⟩
    case round =>
      obtain ⟨k, hk, rfl, HN1, HN2, HS1, HS2, HX, HB⟩ := hrel
      by_cases hlt : k < n
      · obtain ⟨ad, A3, c3, A4, c4, rfl, c0, c1, c2, c3', c4', c5, _, g3, _, g4⟩ := rn_at (Kd.C_below H.out HB.out) k hlt
        have Hf := Kp.mk (map_getD_file add k (by have := Hn.out; omega))
        obtain ⟨r, hr⟩ : ∃ r, add.getD k zRn = r := ⟨_, rfl⟩
        rw [hr] at c0 c1 c2 c3' c4' c5 g3 g4 Hf
        have Hr := Kp.mk hr
        have G3 := Kp.mk g3
        have G4 := Kp.mk g4
        obtain ⟨fs, hfs⟩ : ∃ fs, fs = add.map Rn.file := ⟨_, rfl⟩
        rw [← hfs] at HN2 HS1 Hf
        have Hfs := Kp.mk hfs
        have HWs := Kp.mk HB.out.size
        clear hr g3 g4 hfs
        by_cases e1 : rnOk r
        · have hd1 : Kp (decide (rnOk r) = true) := ⟨decide_eq_true e1⟩
          have hwf := wf_file (x := r.file) (by have := e1.1; omega) e1.2.1
          have Hwf := Kp.mk hwf
          have He1 := Kp.mk e1
          clear e1 hwf
          by_cases e2 : r.file ∈ fs.take k
          · have hd2 : Kp (decide (r.file ∈ fs.take k) = true) := ⟨decide_eq_true e2⟩
            have hv : Kp (false = true ↔ EOk add drop nx lg sq) := ⟨⟨(fun h => by cases h), fun h => absurd e2 (by have := h.2.1 k (by rw [List.length_map, ← Hn.out]; exact hlt); rwa [← Hfs.out, Hf.out] at this)⟩⟩
            clear e2
            go_wp2_with (first
              | (go_at_call 33; refine (edit_run (r := r) (Kd.C_alloc G3.out _) (Kd.C_alloc G4.out _)).mono ?_; rintro e w1 ⟨rfl, hb1⟩; rw [hd1.out]; have cf := cell_newb hb1 0 _ rfl; have HS1' := Kp.mk ((HS1.out.below (alloc_below wr _)).below hb1); have HB1 := Kp.mk (below_then (below_alloc (Below.refl _ _) _) (by simp) hb1); clear hb1)
              | (at_lookup; refine wpList_set_look rfl _ _ rfl (w.heap.size + 1) (fs.take k) r.file rfl HS1'.out rfl Hwf.out ?_; rw [hd2.out]))
            go_ret
            exact ⟨_, rfl, hv.out, below_then HB.out HWs.out HB1.out⟩
          · have hd2 : Kp (decide (r.file ∈ fs.take k) = false) := ⟨decide_eq_false e2⟩
            have hv1 : Kp (∀ j, j < k + 1 → rnOk (add.getD j zRn)) := ⟨fun j hj => by
              by_cases hjk : j = k
              · subst hjk; rw [Hr.out]; exact He1.out
              · exact HN1.out j (by omega)⟩
            have hv2 : Kp (∀ j, j < k + 1 → fs.getD j 0 ∉ fs.take j) := ⟨fun j hj => by
              by_cases hjk : j = k
              · subst hjk; rw [Hf.out]; exact e2
              · exact HN2.out j (by omega)⟩
            have hfk : Kp (fs.take (k + 1) = fs.take k ++ [r.file]) := ⟨by
              have hl : k < fs.length := by rw [Hfs.out, List.length_map, ← Hn.out]; exact hlt
              rw [List.take_succ_eq_append_getElem hl]
              have := Hf.out
              simp only [List.getD, List.getElem?_eq_getElem hl, Option.getD_some] at this
              rw [this]⟩
            have hfl : Kp ((fs.take k).length < 100000) := ⟨by rw [List.length_take]; omega⟩
            clear e2
            go_wp2_with (first
              | (go_at_call 33; refine (edit_run (r := r) (Kd.C_alloc G3.out _) (Kd.C_alloc G4.out _)).mono ?_; rintro e w1 ⟨rfl, hb1⟩; rw [hd1.out]; have cf := cell_newb hb1 0 _ rfl; have HS1' := Kp.mk ((HS1.out.below (alloc_below wr _)).below hb1); have F1 := Kp.mk ((((Fr.refl wr (fun q => q = w.heap.size + 1)).alloc _).below hb1)); clear hb1)
              | (at_lookup; refine wpList_set_look rfl _ _ rfl (w.heap.size + 1) (fs.take k) r.file rfl HS1'.out rfl Hwf.out ?_; rw [hd2.out])
              | (at_mapUpdate; refine wpList_set_put rfl _ _ _ rfl (w.heap.size + 1) (fs.take k) r.file rfl HS1'.out rfl rfl Hwf.out hfl.out ?_; intro w2 hO2 hg2; have HO2 := Kp.mk hO2; have F2 := Kp.mk (F1.out.grown hg2 (fun q e => by cases e; exact .inl rfl)); clear hO2 hg2))
            have hx := (F2.out.block w.heap.size (lt_of_block HX.out) (by omega)).trans HX.out
            have hs2 := HS2.out.step (F2.out.block (w.heap.size + 1 + 1) HS2.out.lt (by omega))
            have hb2 := HB.out.trans (F2.out.toBelow (B := w.heap.size) (fun q hq => by omega) HWs.out)
            rw [← hfk.out] at HO2
            rw [Hfs.out] at HO2 hv2
            go_roundw
            case rel => exact ⟨k + 1, by omega, by go_num, hv1, hv2, HO2, ⟨hs2⟩, ⟨hx⟩, ⟨hb2⟩⟩
            case measure => simp [intOf]; omega
        · have hd1 : Kp (decide (rnOk r) = false) := ⟨decide_eq_false e1⟩
          have hv : Kp (false = true ↔ EOk add drop nx lg sq) := ⟨⟨(fun h => by cases h), fun h => absurd (h.2.2.1 k (by rw [← Hn.out]; exact hlt)) (by rw [Hr.out]; exact e1)⟩⟩
          clear e1
          go_wp2_with (first
            | (go_at_call 33; refine (edit_run (r := r) (Kd.C_alloc G3.out _) (Kd.C_alloc G4.out _)).mono ?_; rintro e w1 ⟨rfl, hb1⟩; rw [hd1.out]; have HB1 := Kp.mk (below_then (below_alloc (Below.refl _ _) _) (by simp) hb1); clear hb1))
          go_ret
          exact ⟨_, rfl, hv.out, below_then HB.out HWs.out HB1.out⟩
      · have b1 := cells_top HX.out 1 _ rfl
        have hkn : k = n := by omega
        have V1 : Kp (∀ j, j < add.length → rnOk (add.getD j zRn)) := ⟨fun j hj => HN1.out j (by rw [hkn, Hn.out]; exact hj)⟩
        have V2 : Kp (OnceP (add.map Rn.file)) := ⟨fun j hj => HN2.out j (by rw [hkn, Hn.out]; rwa [List.length_map] at hj)⟩
        have HWs := Kp.mk HB.out.size
        clear hkn HN1 HN2 HS1
        go_wp2_with fail
        go_loopw [65] (fun i w3 => ∃ k : Nat, k ≤ m ∧ i = .int .i64 k ∧ Kp (∀ j, j < k → 1 ≤ drop.getD j 0 ∧ drop.getD j 0 ≤ 1099511627776) ∧ Kp (∀ j, j < k → drop.getD j 0 ∉ drop.take j) ∧ Kp (OwnSet w3 (w.heap.size + 1 + 1) (drop.take k)) ∧ Kp (Below w.heap.size w w3)) (fun i _ => m - (intOf i).toNat)
        case atStart => exact ⟨0, Nat.zero_le _, rfl, ⟨by omega⟩, ⟨by omega⟩, HS2, HB⟩
        case round =>
          clear HS2 HB HX HWs b1
          obtain ⟨q, hq, rfl, HM1, HM2, HT, HB⟩ := hrel
          by_cases hqt : q < m
          · obtain ⟨ad, rfl, c0⟩ := ints_at (Kd.C_below H'.out HB.out) q hqt
            obtain ⟨y, hy⟩ : ∃ y, drop.getD q 0 = y := ⟨_, rfl⟩
            rw [hy] at c0
            have Hy := Kp.mk hy
            have HWs := Kp.mk HB.out.size
            clear hy
            by_cases e0 : 1 ≤ y ∧ y ≤ 1099511627776
            · obtain ⟨y1, y2⟩ := e0
              have Hwf := Kp.mk (wf_file (x := y) (by omega) y2)
              by_cases e2 : y ∈ drop.take q
              · have hd2 : Kp (decide (y ∈ drop.take q) = true) := ⟨decide_eq_true e2⟩
                have hv : Kp (false = true ↔ EOk add drop nx lg sq) := ⟨⟨(fun h => by cases h), fun h => absurd e2 (by have := h.2.2.2.1 q (by rw [← Hm.out]; exact hqt); rwa [Hy.out] at this)⟩⟩
                clear e2
                go_wp2_with (at_lookup; refine wpList_set_look (by first | rfl | (simp [Region.wanted, yielded]; omega)) _ _ rfl (w.heap.size + 1 + 1) (drop.take q) y rfl HT.out rfl Hwf.out ?_; rw [hd2.out])
                go_ret
                exact ⟨_, rfl, hv.out, HB.out⟩
              · have hd2 : Kp (decide (y ∈ drop.take q) = false) := ⟨decide_eq_false e2⟩
                have hv1 : Kp (∀ j, j < q + 1 → 1 ≤ drop.getD j 0 ∧ drop.getD j 0 ≤ 1099511627776) := ⟨fun j hj => by
                  by_cases hjk : j = q
                  · subst hjk; rw [Hy.out]; exact ⟨y1, y2⟩
                  · exact HM1.out j (by omega)⟩
                have hv2 : Kp (∀ j, j < q + 1 → drop.getD j 0 ∉ drop.take j) := ⟨fun j hj => by
                  by_cases hjk : j = q
                  · subst hjk; rw [Hy.out]; exact e2
                  · exact HM2.out j (by omega)⟩
                have hfk : Kp (drop.take (q + 1) = drop.take q ++ [y]) := ⟨by
                  have hl : q < drop.length := by rw [← Hm.out]; exact hqt
                  rw [List.take_succ_eq_append_getElem hl]
                  have := Hy.out
                  simp only [List.getD, List.getElem?_eq_getElem hl, Option.getD_some] at this
                  rw [this]⟩
                have hfl : Kp ((drop.take q).length < 100000) := ⟨by rw [List.length_take]; omega⟩
                clear e2
                go_wp2_with (first
                  | (at_lookup; refine wpList_set_look (by first | rfl | (simp [Region.wanted, yielded]; omega)) _ _ rfl (w.heap.size + 1 + 1) (drop.take q) y rfl HT.out rfl Hwf.out ?_; rw [hd2.out])
                  | (at_mapUpdate; refine wpList_set_put rfl _ _ _ rfl (w.heap.size + 1 + 1) (drop.take q) y rfl HT.out rfl rfl Hwf.out hfl.out ?_; intro w2 hO2 hg2; have HO2 := Kp.mk hO2; have F2 := Kp.mk ((Fr.refl wr (fun q => q = w.heap.size + 1 + 1)).grown hg2 (fun q e => by cases e; exact .inl rfl)); clear hO2 hg2))
                have hb2 := HB.out.trans (F2.out.toBelow (B := w.heap.size) (fun q hq => by omega) HWs.out)
                rw [← hfk.out] at HO2
                go_roundw
                case rel => exact ⟨q + 1, by omega, by go_num, hv1, hv2, HO2, ⟨hb2⟩⟩
                case measure => simp [intOf]; omega
            · have hv : Kp (false = true ↔ EOk add drop nx lg sq) := ⟨⟨(fun h => by cases h), fun h => absurd (h.2.2.2.2 q (by rw [← Hm.out]; exact hqt)) (by rw [Hy.out]; exact e0)⟩⟩
              by_cases y1 : y < 1
              · clear e0
                go_wp2_with fail
                go_ret
                exact ⟨_, rfl, hv.out, HB.out⟩
              · have y2 : 1099511627776 < y := by omega
                clear e0
                go_wp2_with fail
                go_ret
                exact ⟨_, rfl, hv.out, HB.out⟩
          · have hv : Kp (∀ b : Bool, b = true → (b = true ↔ EOk add drop nx lg sq)) := ⟨fun b hb => ⟨fun _ => ⟨by rw [← Hn.out, ← Hm.out]; exact Hd.out, V2.out, V1.out, fun j hj => HM2.out j (by have := Hm.out; omega), fun j hj => HM1.out j (by have := Hm.out; omega)⟩, fun _ => hb⟩⟩
            go_wp2_with fail
            go_ret
            exact ⟨true, rfl, hv.out true rfl, HB.out⟩
  · go_enter Try.func21, Try.ntmps21
    go_wp2_with fail
    all_goals
      first
      | (exfalso; refine hd ?_; unfold eHead; omega)
      | (go_ret; exact ⟨_, rfl, ⟨(fun h => by cases h), fun h => absurd (by rw [Hn.out, Hm.out]; exact h.1) hd⟩, alloc_below _ _⟩)
end Go.Proofs.Ytgfkpddmjcgceaa.Kx
