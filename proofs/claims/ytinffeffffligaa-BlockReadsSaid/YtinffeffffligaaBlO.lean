import Derived.Test.YtinffeffffligaaBlN
set_option linter.unusedVariables false
set_option linter.unusedSimpArgs false
namespace Go.Proofs.Ytinffeffffligaa.Bas
open Go.RowKit Go.Maps

/-! ### Bytes read as a key -/
def kyOf (xs : List Int) : Ky := ⟨xs.take (xs.length - 8), ((numB (xs.drop (xs.length - 8)) / 256 : Nat) : Int), ((numB (xs.drop (xs.length - 8)) % 256 : Nat) : Int)⟩
theorem kyOf_kb {xs : List Int} (hb : Byt xs) (h : 9 ≤ xs.length) : kb (kyOf xs) = xs := by
  have e : tailN (kyOf xs) = numB (xs.drop (xs.length - 8)) := by
    unfold tailN kyOf
    dsimp only
    rw [Int.toNat_natCast, Int.toNat_natCast]
    omega
  have hl : (xs.drop (xs.length - 8)).length = 8 := by rw [List.length_drop]; omega
  unfold kb
  rw [e]
  have := lowB_numB (byt_drop hb (xs.length - 8))
  rw [hl] at this
  rw [this]
  exact List.take_append_drop _ _
theorem kyOf_one {xs : List Int} {k : Ky} (hr : RightK k) (h0 : 0 ≤ k.seq) (he : kb k = xs) : kyOf xs = k := by
  subst he
  have hl := kb_len k
  have h1 : (kb k).length - 8 = k.key.length := by omega
  obtain ⟨x, hx, hx64, _⟩ := tail_bits hr h0
  have h2 : (kb k).drop k.key.length = lowB (tailN k) 8 := by unfold kb; rw [List.drop_left' rfl]
  have h3 : (kb k).take k.key.length = k.key := by unfold kb; rw [List.take_left' rfl]
  have h4 : numB (lowB (tailN k) 8) = tailN k := numB_lowB 8 _ (by rw [← hx]; omega)
  have h5 : 0 ≤ k.kind ∧ k.kind ≤ 1 := by rcases hr.kind with h | h <;> omega
  unfold kyOf
  rw [h1, h2, h3, h4]
  obtain ⟨a, b, c⟩ := k
  simp only at h0 h5 ⊢
  unfold tailN
  simp only
  congr 1
  · omega
  · omega
theorem ret_cp {P : Program} {fn : Func} {R : Ending → World → Prop} {a : Act} {w : World} {ty : TypeId} {g : Nat} {t : TypeId} {cs : Array Value} {fr : Nat × Nat} {d : TypeDesc} {v5 : Value} {p u : Tmp} (h : fn.results = #[.cell p ty, .tmp u])
    (h4 : a.tmps.toList[p]? = some (.pointer (some ⟨g, 0, none⟩))) (h5 : a.tmps.toList[u]? = some v5) (hg : w.heap[g]? = some (.cells cs t fr))
    (hu : P.underlying ty = some d) (hd : (match d with | .struct _ | .array _ _ => true | _ => false) = true) (hi : (P.info? ty).map (·.size) = some cs.size) (hdf : a.defers = []) (hR : R (.returned (.tuple #[.agg cs, v5])) w) : bodyPost P fn R .ret a w := by
  have e4 : a.tmps[p]?.getD undef = .pointer (some ⟨g, 0, none⟩) := by
    rw [Array.getElem?_toList] at h4
    simp [h4]
  have e5 : a.tmps.getD u undef = v5 := by
    rw [Array.getElem?_toList] at h5
    simp [h5]
  have hrun : (results fn a.tmps).run P w = .ok (.tuple #[.agg cs, a.tmps.getD u undef]) w := by
    rw [results_cell_tmp h]
    simp [asAddr, e4, run_loadVar_row w g t ty cs fr d hg hu hd hi, Result.andThen]
  refine bodyPost_ret hrun hdf ?_
  rw [e5]
  exact hR
/-- Three cells are stored. -/
theorem put3 {w : World} {g : Nat} {a b c : Value} {t : TypeId} (h : w.heap[g]? = some (.cells #[a, b, c] t (0, 0))) (u0 u1 u2 : Value) :
    (((w.setCell ⟨g, 0, none⟩ u0).setCell ⟨g, 1, none⟩ u1).setCell ⟨g, 2, none⟩ u2).heap[g]? = some (.cells #[u0, u1, u2] t (0, 0)) ∧ Fr w (((w.setCell ⟨g, 0, none⟩ u0).setCell ⟨g, 1, none⟩ u1).setCell ⟨g, 2, none⟩ u2) (fun k => k = g) := by
  have a1 := heap_setCell_same w _ 0 _ _ u0 h
  have a2 := heap_setCell_same _ _ 1 _ _ u1 a1
  have a3 := heap_setCell_same _ _ 2 _ _ u2 a2
  refine ⟨a3, ?_⟩
  have f0 : Fr w w (fun k => k = g) := Fr.refl w _
  exact ((f0.setCell (a := ⟨g, 0, none⟩) (.inl rfl) u0).setCell (a := ⟨g, 1, none⟩) (.inl rfl) u1).setCell (a := ⟨g, 2, none⟩) (.inl rfl) u2
/-- What reading a key tells. -/
def ReadP (xs : List Int) (w : World) (e : Ending) (w' : World) : Prop :=
  Below w.heap.size w w' ∧
    ((∃ A n c k, e = .returned (.tuple #[.agg #[.slice A n c, .int .u64 k.seq, .int .i64 k.kind], .int .i64 0]) ∧ kb k = xs ∧ RightK k ∧ 0 ≤ k.seq ∧ Byt k.key ∧ Nu .u8 5 w.heap.size w' (.slice A n c) k.key) ∨
      (∃ r : Int, r ≠ 0 ∧ e = .returned (.tuple #[.agg #[.slice none 0 0, .int .u64 0, .int .i64 0], .int .i64 r]) ∧ ∀ k, RightK k → 0 ≤ k.seq → kb k ≠ xs))
theorem short_no {xs : List Int} (h : xs.length < 9) : ∀ k, RightK k → 0 ≤ k.seq → kb k ≠ xs := fun k hr _ e => by
  have h1 := kb_len k
  have h2 := hr.low
  rw [e] at h1
  omega
set_option maxHeartbeats 2000000 in
set_option maxRecDepth 100000 in
theorem ref_readkey {w : World} {A : Option Addr} {n c : Nat} {xs : List Int} (h : Rd w .u8 A n c xs) (hc : n ≤ c) (hb : Byt xs) : Calls Try.prog 57 #[.slice A n c] w (ReadP xs w) := by
  have hl := h.len
  have hm := h.max
  by_cases h9 : n < 9
  · have HS := Kp.mk (short_no (xs := xs) (by omega))
    have hg : (w.alloc (.cells #[.slice none 0 0, .int .u64 0, .int .i64 0] 46)).heap[w.heap.size]? = some (.cells #[.slice none 0 0, .int .u64 0, .int .i64 0] 46) := heap_alloc_new _ _
    clear h hb hl
    go_enter Try.func57, Try.ntmps57
    go_wp2_with fail
    exact ret_cp rfl rfl rfl hg Try.underlying46 rfl (by kernel_rfl) rfl ⟨alloc_below _ _, .inr ⟨4, by omega, rfl, HS.out⟩⟩
  · obtain ⟨m, hmn⟩ : ∃ m, n = m + 8 := ⟨n - 8, by omega⟩
    have hw8 : IntKind.i64.wrap ((n : Int) - 8) = (m : Int) := (IntWalk.i64_in _ (by omega)).trans (by omega)
    obtain ⟨q, hq⟩ : ∃ q, q = numB (xs.drop m) := ⟨_, rfl⟩
    have hm8 : xs.length - 8 = m := by omega
    have hq64 : q < 18446744073709551616 := by
      have h1 := numB_lt (byt_drop hb m)
      have h2 : (xs.drop m).length = 8 := by rw [List.length_drop]; omega
      rw [h2, ← hq] at h1
      omega
    have hkb := kyOf_kb hb (by omega)
    have hone := fun k hr h0 he => kyOf_one (xs := xs) (k := k) hr h0 he
    have hkd : kyOf xs = ⟨xs.take m, ((q / 256 : Nat) : Int), ((q % 256 : Nat) : Int)⟩ := by unfold kyOf; rw [hm8, ← hq]
    rw [hkd] at hkb hone
    obtain ⟨s, hs⟩ : ∃ s, s = q / 256 := ⟨_, rfl⟩
    obtain ⟨d, hd⟩ : ∃ d, d = q % 256 := ⟨_, rfl⟩
    rw [← hs, ← hd] at hkb hone
    have f1 : (q : Int) / 256 = (s : Int) := by omega
    have f2 : bits .and .u64 (q : Int) 255 = (d : Int) := by rw [show (255 : Int) = ((255 : Nat) : Int) from rfl, and64 hq64 (by omega), and255, ← hd]
    have f3 : IntKind.i64.wrap (d : Int) = (d : Int) := IntWalk.i64_in _ (by omega)
    obtain ⟨ks, hks⟩ : ∃ ks, ks = xs.take m := ⟨_, rfl⟩
    have hR := h.take (m := m) (by omega)
    rw [← hks] at hR hkb hone
    have hkl : ks.length = m := hR.len
    have hbk : Byt ks := by rw [hks]; exact byt_take hb m
    have hgn := fun (W : World) (hW : Below w.heap.size w W) => ref_getn (h.below hW) hb (a := m) (m := 8) (by omega) (by omega)
    have hdr : (xs.drop m).take 8 = xs.drop m := List.take_of_length_le (by rw [List.length_drop]; omega)
    rw [hdr, ← hq] at hgn
    have HG := Kp.mk hgn
    have HR := Kp.mk hR
    have HKb := Kp.mk hkb
    have HOne := Kp.mk hone
    have Hbk := Kp.mk hbk
    have Hkl := Kp.mk hkl
    obtain ⟨W1, hW1⟩ : ∃ W1, W1 = w.alloc (.cells #[.slice none 0 0, .int .u64 0, .int .i64 0] 46) := ⟨_, rfl⟩
    have hb1 : Below w.heap.size w W1 := by rw [hW1]; exact alloc_below _ _
    have g1 : W1.heap[w.heap.size]? = some (.cells #[.slice none 0 0, .int .u64 0, .int .i64 0] 46) := by rw [hW1]; exact heap_alloc_new _ _
    have HB1 := Kp.mk hb1
    have G1 := Kp.mk g1
    have HW1 := Kp.mk hW1
    have hmc : m ≤ c := by omega
    have hmx : m * 1 ≤ 140737488355328 := by omega
    have hdec : ∀ (W : World) A2 c2, Rd W .u8 A2 m c2 ks → Calls Try.prog 62 #[.agg #[.slice A2 m c2, .int .u64 s, .int .i64 d]] W fun e w' => e = .returned (.bool (decide (RightK ⟨ks, (s : Int), (d : Int)⟩))) ∧ Below W.heap.size W w' := fun W A2 c2 hr => ref_right ⟨A2, m, c2, rfl, hr, hbk⟩
    have HDec := Kp.mk hdec
    clear h hb hl hq hs hd hks hR hkb hone hkd hgn hdr hbk hkl hb1 g1 hW1 hdec hmn hq64 hm8
    go_enter Try.func57, Try.ntmps57
    go_wp2_with (first
      | (go_at_call 37; rw [← HW1.out]; refine (HG.out _ HB1.out).mono ?_; rintro e w2 ⟨rfl, hw2⟩; subst hw2)
      | (at_builtin; go_must (refine wpList_append_new rfl (.const (.slice none 0 0)) (.tmp 19) 25 5 .u8 1 rfl Try.underlying25 Try.infoU8 (by decide) m c ks A rfl rfl (HR.out.below HB1.out) hmx ?_); intro A2 c2 w3 h1 h2; have HN := Kp.mk h1; have HB3 := Kp.mk h2; clear h1 h2))
    obtain ⟨b, hb⟩ : ∃ b, decide (RightK ⟨ks, (s : Int), (d : Int)⟩) = b := ⟨_, rfl⟩
    have hz : w.heap.size < w2.heap.size := lt_of_block G1.out
    have hb3 : Below w2.heap.size w2 (w3.alloc (.cells #[.slice A2 m c2, .int .u64 s, .int .i64 d] 46)) := HB3.out.alloc HB3.out.size _
    have hcall := HDec.out (w3.alloc (.cells #[.slice A2 m c2, .int .u64 s, .int .i64 d] 46)) A2 c2 (((HN.out.below (alloc_below w3 _)).rd (by have := Hkl.out; omega)).2.1)
    rw [hb] at hcall
    refine hcall.mono ?_
    rintro e w4 ⟨rfl, h4⟩
    have hb4 : Below w2.heap.size w2 w4 := hb3.trans (h4.mono hb3.size)
    have k1 : w4.heap[w.heap.size]? = some (.cells #[.slice none 0 0, .int .u64 0, .int .i64 0] 46) := (hb4.block _ hz).trans G1.out
    have k2 : w4.heap[w3.heap.size]? = some (.cells #[.slice A2 m c2, .int .u64 s, .int .i64 d] 46) := (h4.block _ (by simp)).trans (heap_alloc_new w3 _)
    have c0 := cells_top k2 0 _ rfl
    have c1 := cells_top k2 1 _ rfl
    have c2' := cells_top k2 2 _ rfl
    have r0 := cells_top k1 0 _ rfl
    have r1 := cells_top k1 1 _ rfl
    have r2 := cells_top k1 2 _ rfl
    have q0 := free_top k1 0
    have q1 := free_top k1 1
    have q2 := free_top k1 2
    have HN4 := Kp.mk ((HN.out.below (alloc_below w3 (.cells #[.slice A2 m c2, .int .u64 s, .int .i64 d] 46))).below h4)
    have HB4 : Kp (Below w.heap.size w w4) := ⟨HB1.out.trans (hb4.mono HB1.out.size)⟩
    have K1 := Kp.mk k1
    have Hz := Kp.mk hz
    have Hb := Kp.mk hb
    clear hcall h4 hb4 hb3 k1 k2 hz hb HDec HG HN HB3
    cases b with
    | false =>
      have HNo : Kp (∀ k, RightK k → 0 ≤ k.seq → kb k ≠ xs) := ⟨fun k hr h0 he => by
        have := HOne.out k hr h0 he
        rw [this] at Hb
        exact of_decide_eq_false Hb.out hr⟩
      go_wp2_with fail
      obtain ⟨a3, hfr⟩ := put3 K1.out (.slice none 0 0) (.int .u64 0) (.int .i64 0)
      exact ret_cp rfl rfl rfl a3 Try.underlying46 rfl (by kernel_rfl) rfl ⟨HB4.out.trans (hfr.toBelow (fun k hk => Nat.le_of_eq hk.symm) HB4.out.size), .inr ⟨2, by omega, rfl, HNo.out⟩⟩
    | true =>
      have HRk := Kp.mk (of_decide_eq_true Hb.out)
      go_wp2_with fail
      obtain ⟨a3, hfr⟩ := put3 K1.out (.slice A2 m c2) (.int .u64 s) (.int .i64 d)
      have hnn := (HN4.out.kept hfr (fun k hk hS => by have := HN4.out.base k hk; have := Hz.out; omega)).lower (Nat.le_of_lt Hz.out)
      exact ret_cp rfl rfl rfl a3 Try.underlying46 rfl (by kernel_rfl) rfl ⟨HB4.out.trans (hfr.toBelow (fun k hk => Nat.le_of_eq hk.symm) HB4.out.size), .inl ⟨A2, m, c2, ⟨ks, (s : Int), (d : Int)⟩, rfl, HKb.out, HRk.out, Int.natCast_nonneg _, Hbk.out, hnn⟩⟩
end Go.Proofs.Ytinffeffffligaa.Bas
