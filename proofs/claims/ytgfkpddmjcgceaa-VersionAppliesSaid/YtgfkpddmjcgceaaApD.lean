import Derived.Test.YtgfkpddmjcgceaaApC
set_option linter.unusedVariables false
set_option linter.unusedSimpArgs false
namespace Go.Proofs.Ytgfkpddmjcgceaa.Kx
open Go.RowKit Go.Maps Go.Proofs.YtgfkpddmjcgceaaW.PrintWords

theorem drew_below' (w : World) : Below w.heap.size w w.drew := (Below.refl _ _).drew
theorem Jn.grown0 {w W W1 : World} {V E : Array Value} {v o1 o2 o3 : Value} {l : List Rn} (h : Jn w W V E v o1 o2 o3 l) (hb : Below w.heap.size w W1) (hg : W.grownBy W1 v.ownBlock) :
    W1.heap[w.heap.size]? = some (.cells V 27 (0, 0)) ∧ W1.heap[w.heap.size + 1]? = some (.cells E 31 (0, 0)) :=
  ⟨(hg.block _ (lt_of_block h.z4) (Kd.R_ne h.r h.z4 (by decide))).trans h.z4, (hg.block _ (lt_of_block h.z5) (Kd.R_ne h.r h.z5 (by decide))).trans h.z5⟩
theorem take_snoc_drop {rs : List Rn} {b k : Nat} (hb : b ≤ k) (hk : k < rs.length) : (rs.drop b).take (k + 1 - b) = (rs.drop b).take (k - b) ++ [rs.getD k zRn] := by
  have h1 : k - b < (rs.drop b).length := by rw [List.length_drop]; omega
  have := take_snoc_run (rs := rs.drop b) (k := k - b) h1
  rw [show k + 1 - b = (k - b) + 1 by omega, this]
  congr 2
  simp [List.getD, List.getElem?_drop, show b + (k - b) = k by omega]
set_option maxHeartbeats 16000000 in
set_option maxRecDepth 100000 in
theorem ref_join {w : World} {A A1 A2 : Option Addr} {n n1 n2 c c1 c2 : Nat} {rs add : List Rn} (nx lg sq enx elg esq : Int) (a b : Nat) (h : kRn.C w A n rs) (h1 : kRn.C w A1 n1 add) (hab : a ≤ b) (hbn : b ≤ n) (hn : n ≤ 1000) (hn1 : n1 ≤ 100) (hs : ShortRs rs) (hs1 : ShortRs add) (hesq : 0 ≤ esq) :
    Calls Try.prog 31 #[.agg #[.slice A n c, .int .i64 nx, .int .i64 lg, .int .u64 sq], .agg #[.slice A1 n1 c1, .slice A2 n2 c2, .int .i64 enx, .int .i64 elg, .int .u64 esq], .int .i64 (a : Int), .int .i64 ((b : Int) - 1)] w (JoinQ (rs.take a ++ add ++ rs.drop b) (laterI nx enx) (laterI lg elg) (outS sq esq) w) := by
  have HL := Kp.mk h.1
  have HL1 := Kp.mk h1.1
  have H := Kp.mk h
  have H1 := Kp.mk h1
  have HSr := Kp.mk hs
  have HSa := Kp.mk hs1
  clear h h1 hs hs1
  have HJ : Kp (Jn w ((((w.alloc (.cells #[.slice A n c, .int .i64 nx, .int .i64 lg, .int .u64 sq] 27)).alloc (.cells #[.slice A1 n1 c1, .slice A2 n2 c2, .int .i64 enx, .int .i64 elg, .int .u64 esq] 31)).alloc (.cells #[.slice none 0 0, .int .i64 0, .int .i64 0, .int .u64 0] 27)).alloc (.cells #[.slice none 0 0, .int .i64 nx, .int .i64 lg, .int .u64 sq] 27)) #[.slice A n c, .int .i64 nx, .int .i64 lg, .int .u64 sq] #[.slice A1 n1 c1, .slice A2 n2 c2, .int .i64 enx, .int .i64 elg, .int .u64 esq] (.slice none 0 0) (.int .i64 nx) (.int .i64 lg) (.int .u64 sq) ([])) := ⟨by
    obtain ⟨h0, g1, g2, g3, g4⟩ := nest4 (w := w) (o1 := .cells #[.slice A n c, .int .i64 nx, .int .i64 lg, .int .u64 sq] 27) (o2 := .cells #[.slice A1 n1 c1, .slice A2 n2 c2, .int .i64 enx, .int .i64 elg, .int .u64 esq] 31) (o3 := .cells #[.slice none 0 0, .int .i64 0, .int .i64 0, .int .u64 0] 27) (o4 := .cells #[.slice none 0 0, .int .i64 nx, .int .i64 lg, .int .u64 sq] 27) (Below.refl _ _)
    exact ⟨g1, g2, g3, g4, Kd.R_nil _ _ _ _ _, h0⟩⟩
  go_enter Try.func31, Try.ntmps31
  go_wp2_with fail
  go_loopw [10] (fun i wr => ∃ k : Nat, k ≤ a ∧ i = .int .i64 k ∧ ∃ v, Kp (Jn w wr #[.slice A n c, .int .i64 nx, .int .i64 lg, .int .u64 sq] #[.slice A1 n1 c1, .slice A2 n2 c2, .int .i64 enx, .int .i64 elg, .int .u64 esq] v (.int .i64 nx) (.int .i64 lg) (.int .u64 sq) (rs.take k))) (fun i _ => a - (intOf i).toNat)
  case atStart => exact ⟨0, Nat.zero_le _, rfl, _, HJ⟩
  case round =>
    clear HJ
    obtain ⟨k, hk, rfl, v, HJ⟩ := hrel
    have b0 := cells_top HJ.out.z4 0 (.slice A n c) rfl
    by_cases hlt : k < a
    · have hki : (k : Int) < (a : Int) := by omega
      obtain ⟨A9, c9, e9⟩ := Kd.R_slice HJ.out.r
      subst e9
      obtain ⟨nl, hnl⟩ : ∃ nl, nl = (rs.take k).length := ⟨_, rfl⟩
      rw [← hnl] at HJ
      have HLen : Kp (((rs.take k).length + 1) * 80 ≤ 140737488355328) := ⟨by rw [List.length_take]; omega⟩
      clear hnl
      obtain ⟨ad, A3, c3, A4, c4, e7, e0, e1, e2, e3, e4, e5, _, g3, _, g4⟩ := rn_at H.out k (by omega)
      subst e7
      have Hsh := Kp.mk (HSr.out k (by have := HL.out; omega))
      have Hsn : Kp (rs.take (k + 1) = rs.take k ++ [rs.getD k zRn]) := ⟨take_snoc_run (by have := HL.out; omega)⟩
      obtain ⟨r, hr⟩ : ∃ r, rs.getD k zRn = r := ⟨_, rfl⟩
      rw [hr] at e0 e1 e2 e3 e4 e5 g3 g4 Hsn Hsh
      have G3 := Kp.mk g3
      have G4 := Kp.mk g4
      clear hr g3 g4
      have hkn : k < n := by omega
      have hkn2 : (k : Int) < (n : Int) := by omega
      go_wp2_with fail
      have HJ0 := Kp.mk (HJ.out.below (drew_below' wr))
      have HS : Kp (∀ W, Jn w W #[.slice (some ad) n c, .int .i64 nx, .int .i64 lg, .int .u64 sq] #[.slice A1 n1 c1, .slice A2 n2 c2, .int .i64 enx, .int .i64 elg, .int .u64 esq] (.slice A9 nl c9) (.int .i64 nx) (.int .i64 lg) (.int .u64 sq) (rs.take k) → (fun W => W.cell? ⟨w.heap.size, 0, none⟩ = some (.slice (some ad) n c) ∧ W.cell? (ad.add (k * 6)) = some (.int .i64 r.file) ∧ W.cell? ⟨(ad.add (k * 6)).block, (ad.add (k * 6)).off + 1, none⟩ = some (.int .i64 r.bytes) ∧ W.cell? ⟨(ad.add (k * 6)).block, (ad.add (k * 6)).off + 2, none⟩ = some (.int .i64 r.count) ∧ W.cell? ⟨(ad.add (k * 6)).block, (ad.add (k * 6)).off + 3, none⟩ = some (.slice A3 r.first.length c3) ∧ W.cell? ⟨(ad.add (k * 6)).block, (ad.add (k * 6)).off + 4, none⟩ = some (.slice A4 r.last.length c4) ∧ W.cell? ⟨(ad.add (k * 6)).block, (ad.add (k * 6)).off + 5, none⟩ = some (.int .u64 r.seq)) W) := ⟨fun W hW => ⟨cells_top hW.z4 0 _ rfl, pw_cell_below hW.b e0, pw_cell_below hW.b e1, pw_cell_below hW.b e2, pw_cell_below hW.b e3, pw_cell_below hW.b e4, pw_cell_below hW.b e5⟩⟩
      refine wp_region_held_drew (S := fun W => W.cell? ⟨w.heap.size, 0, none⟩ = some (.slice (some ad) n c) ∧ W.cell? (ad.add (k * 6)) = some (.int .i64 r.file) ∧ W.cell? ⟨(ad.add (k * 6)).block, (ad.add (k * 6)).off + 1, none⟩ = some (.int .i64 r.bytes) ∧ W.cell? ⟨(ad.add (k * 6)).block, (ad.add (k * 6)).off + 2, none⟩ = some (.int .i64 r.count) ∧ W.cell? ⟨(ad.add (k * 6)).block, (ad.add (k * 6)).off + 3, none⟩ = some (.slice A3 r.first.length c3) ∧ W.cell? ⟨(ad.add (k * 6)).block, (ad.add (k * 6)).off + 4, none⟩ = some (.slice A4 r.last.length c4) ∧ W.cell? ⟨(ad.add (k * 6)).block, (ad.add (k * 6)).off + 5, none⟩ = some (.int .u64 r.seq)) (by kernel_rfl) (HS.out _ HJ0.out) (fun hHeld => ?_)
      refine wpAnyH_take (i := 0) (oi := _) (v := ?_) rfl (by kernel_rfl) (by kernel_rfl) (by kernel_rfl) (fun _ _ _ h => h) (Or.inl ⟨by rfl, ?_⟩) (by assumption) ?_
      rotate_left
      · intro w5 hSw; (try dsimp only at hSw); go_simp; all_goals (with_reducible rfl)
      try simp only [List.getElem_toArray, List.getElem_cons_succ, List.getElem_cons_zero, Act.put, List.setIfInBounds_toArray, List.set_cons_zero, List.set_cons_succ]
      refine wpAnyH_take (i := 2) (oi := _) (v := ?_) rfl (by kernel_rfl) (by kernel_rfl) (by kernel_rfl) (fun _ _ _ h => h) (Or.inl ⟨by rfl, ?_⟩) (by assumption) ?_
      rotate_left
      · intro w5 hSw; (try dsimp only at hSw); go_simp; all_goals (with_reducible rfl)
      try simp only [List.getElem_toArray, List.getElem_cons_succ, List.getElem_cons_zero, Act.put, List.setIfInBounds_toArray, List.set_cons_zero, List.set_cons_succ]
      refine wpAnyH_take (i := 3) (oi := _) (v := ?_) rfl (by kernel_rfl) (by kernel_rfl) (by kernel_rfl) (fun _ _ _ h => h) (Or.inl ⟨by rfl, ?_⟩) (by assumption) ?_
      rotate_left
      · intro w5 hSw; (try dsimp only at hSw); go_simp; all_goals (with_reducible rfl)
      try simp only [List.getElem_toArray, List.getElem_cons_succ, List.getElem_cons_zero, Act.put, List.setIfInBounds_toArray, List.set_cons_zero, List.set_cons_succ]
      refine wpAnyH_take (i := 4) (oi := _) (v := ?_) rfl (by kernel_rfl) (by kernel_rfl) (by kernel_rfl) (fun _ _ _ h => h) (Or.inl ⟨by rfl, ?_⟩) (by assumption) ?_
      rotate_left
      · intro w5 hSw; (try dsimp only at hSw); go_simp; all_goals (with_reducible rfl)
      try simp only [List.getElem_toArray, List.getElem_cons_succ, List.getElem_cons_zero, Act.put, List.setIfInBounds_toArray, List.set_cons_zero, List.set_cons_succ]
      refine wpAnyH_take (i := 5) (oi := _) (v := ?_) rfl (by kernel_rfl) (by kernel_rfl) (by kernel_rfl) (fun _ _ _ h => h) (Or.inl ⟨by rfl, ?_⟩) (by assumption) ?_
      rotate_left
      · intro w5 hSw; (try dsimp only at hSw); go_simp; all_goals (with_reducible rfl)
      try simp only [List.getElem_toArray, List.getElem_cons_succ, List.getElem_cons_zero, Act.put, List.setIfInBounds_toArray, List.set_cons_zero, List.set_cons_succ]
      refine wpAnyH_take (i := 6) (oi := _) (v := ?_) rfl (by kernel_rfl) (by kernel_rfl) (by kernel_rfl) (fun _ _ _ h => h) (Or.inl ⟨by rfl, ?_⟩) (by assumption) ?_
      rotate_left
      · intro w5 hSw; (try dsimp only at hSw); go_simp; all_goals (with_reducible rfl)
      try simp only [List.getElem_toArray, List.getElem_cons_succ, List.getElem_cons_zero, Act.put, List.setIfInBounds_toArray, List.set_cons_zero, List.set_cons_succ]
      refine wpAnyH_ready (rs := [1, 7]) (by kernel_rfl) (by simp) ?_
      refine AllReadyH.cons (o := _) rfl (fun K hK => ?_) (AllReadyH.cons (o := _) rfl (fun K hK => ?_) AllReadyH.nil)
      · skip
        have x9 := cells_top HJ0.out.z9 0 (.slice A9 nl c9) rfl
        go_simp
        clear x9
        refine hK.out _ _ (HS.out _ HJ0.out) (fun hHeld1 => ?_)
        clear hK K hHeld
        try simp only [List.getElem_toArray, List.getElem_cons_succ, List.getElem_cons_zero, Act.put, List.setIfInBounds_toArray, List.set_cons_zero, List.set_cons_succ]
        refine wpAnyH_ready (rs := [7]) (by kernel_rfl) (by simp) ?_
        refine AllReadyH.cons (o := _) rfl (fun K hK => ?_) AllReadyH.nil
        go_simp
        refine (ref_copy (Kd.C_below G3.out HJ0.out.b) (Kd.C_below G4.out HJ0.out.b) Hsh.out.1 Hsh.out.2).mono ?_
        rintro e w2 ⟨A5, c5, A6, c6, rfl, hm, hbl⟩
        have HM := Kp.mk (kRn.M_lower HJ0.out.b.size (kRn.M_mono (ok' := fun q => (_ : World).heap.size ≤ q) (fun q hq => hq.2.1) (kRn.M_bound hm)))
        have HLt := Kp.mk (Kd.R_lt HJ0.out.r)
        have HJ2 := Kp.mk (HJ0.out.below hbl)
        clear hm hbl
        refine hK.out _ _ (HS.out _ HJ2.out) (fun hHeld2 => ?_)
        clear hK K hHeld1
        try simp only [List.getElem_toArray, List.getElem_cons_succ, List.getElem_cons_zero, Act.put, List.setIfInBounds_toArray, List.set_cons_zero, List.set_cons_succ]
        refine wpAnyH_ready (rs := [8]) (by kernel_rfl) (by simp) ?_
        refine AllReadyH.cons (o := _) rfl (fun K hK => ?_) AllReadyH.nil
        go_simp
        have HJb := HJ2
        have HJ3 := Kp.mk (HJ2.out.below (alloc_below _ (.cells #[.int .i64 r.file, .int .i64 r.bytes, .int .i64 r.count, .slice A5 r.first.length c5, .slice A6 r.last.length c6, .int .u64 r.seq] 42)))
        refine hK.out _ _ (HS.out _ HJ3.out) (fun hHeld3 => ?_)
        clear hK K hHeld2
        try simp only [List.getElem_toArray, List.getElem_cons_succ, List.getElem_cons_zero, Act.put, List.setIfInBounds_toArray, List.set_cons_zero, List.set_cons_succ]
        refine wpAnyH_ready (rs := [9]) (by kernel_rfl) (by simp) ?_
        refine AllReadyH.cons (o := _) rfl (fun K hK => ?_) AllReadyH.nil
        refine Kd.R_append_step kRn (w0 := w) (W := w2) w.heap.size (by rfl) (.tmp 26) (.tmp 33) 24 42 (.agg #[.int .i64 0, .int .i64 0, .int .i64 0, .slice none 0 0, .slice none 0 0, .int .u64 0]) 80 rfl Try.underlying24 Try.infoRn rfl (Nat.succ_pos 5) (by decide) (.slice A9 nl c9) (rs.take k) r [.int .i64 r.file, .int .i64 r.bytes, .int .i64 r.count, .slice A5 r.first.length c5, .slice A6 r.last.length c6, .int .u64 r.seq] (fun _ => True) _ rfl rfl HM.out (fun q hq => ⟨trivial, fun e => by have := HLt.out q e.symm; omega⟩) (fun _ _ => trivial) HJb.out.r HJb.out.b HJb.out.b.size (by have := HLen.out; omega) ?_
        intro v1 w3 hR hB hg hat
        obtain ⟨A8, c8, e8⟩ := Kd.R_slice hR
        obtain ⟨m8, hm8⟩ : ∃ m8, m8 = ((rs.take k) ++ [r]).length := ⟨_, rfl⟩
        rw [← hm8] at e8
        subst e8
        clear hm8
        have HR8 := Kp.mk hR
        have H9 := Kp.mk (HJb.out.cells9 hg)
        have HN := Kp.mk (HJb.out.grown hR hB hg)
        have HSx := Kp.mk ((HJb.out.grown0 hB hg))
        clear hR hg hat
        have HB3 := Kp.mk hB
        clear hB
        refine hK.out _ _ ⟨cells_top HSx.out.1 0 _ rfl, pw_cell_below HB3.out e0, pw_cell_below HB3.out e1, pw_cell_below HB3.out e2, pw_cell_below HB3.out e3, pw_cell_below HB3.out e4, pw_cell_below HB3.out e5⟩ (fun hHeld4 => ?_)
        clear hK K hHeld3
        try simp only [List.getElem_toArray, List.getElem_cons_succ, List.getElem_cons_zero, Act.put, List.setIfInBounds_toArray, List.set_cons_zero, List.set_cons_succ]
        refine wpAnyH_take (i := 10) (oi := _) (v := ?_) rfl (by kernel_rfl) (by kernel_rfl) (by kernel_rfl) (fun _ _ _ h => h) (Or.inl ⟨by rfl, ?_⟩) (by assumption) ?_
        rotate_left
        · intro w5 hSw; (try dsimp only at hSw); go_simp; all_goals (with_reducible rfl)
        try simp only [List.getElem_toArray, List.getElem_cons_succ, List.getElem_cons_zero, Act.put, List.setIfInBounds_toArray, List.set_cons_zero, List.set_cons_succ]
        refine wpAnyH_ready (rs := [11]) (by kernel_rfl) (by simp) ?_
        refine AllReadyH.cons (o := _) rfl (fun K hK => ?_) AllReadyH.nil
        have x9 := cells_top H9.out 0 (.slice A9 nl c9) rfl
        have y9 := free_top H9.out 0
        go_simp
        refine hK.out _ _ ⟨cells_top HN.out.z4 0 _ rfl, pw_cell_below HN.out.b e0, pw_cell_below HN.out.b e1, pw_cell_below HN.out.b e2, pw_cell_below HN.out.b e3, pw_cell_below HN.out.b e4, pw_cell_below HN.out.b e5⟩ (fun hHeld8 => ?_)
        clear hK K hHeld4 x9 y9
        try simp only [List.getElem_toArray, List.getElem_cons_succ, List.getElem_cons_zero, Act.put, List.setIfInBounds_toArray, List.set_cons_zero, List.set_cons_succ]
        refine wpAnyH_done (by kernel_rfl) ?_ _
        clear hHeld8 e0 e1 e2 e3 e4 e5 b0
        go_wp2_with fail
        go_roundw
        case rel => exact ⟨k + 1, by omega, by go_num, _, ⟨by rw [Hsn.out]; exact HN.out⟩⟩
        case measure => simp [intOf]; omega
      · skip
        go_simp
        refine (ref_copy (Kd.C_below G3.out HJ0.out.b) (Kd.C_below G4.out HJ0.out.b) Hsh.out.1 Hsh.out.2).mono ?_
        rintro e w2 ⟨A5, c5, A6, c6, rfl, hm, hbl⟩
        have HM := Kp.mk (kRn.M_lower HJ0.out.b.size (kRn.M_mono (ok' := fun q => (_ : World).heap.size ≤ q) (fun q hq => hq.2.1) (kRn.M_bound hm)))
        have HLt := Kp.mk (Kd.R_lt HJ0.out.r)
        have HJ1 := Kp.mk (HJ0.out.below hbl)
        clear hm hbl
        refine hK.out _ _ (HS.out _ HJ1.out) (fun hHeld1 => ?_)
        clear hK K hHeld
        try simp only [List.getElem_toArray, List.getElem_cons_succ, List.getElem_cons_zero, Act.put, List.setIfInBounds_toArray, List.set_cons_zero, List.set_cons_succ]
        refine wpAnyH_ready (rs := [1, 8]) (by kernel_rfl) (by simp) ?_
        refine AllReadyH.cons (o := _) rfl (fun K hK => ?_) (AllReadyH.cons (o := _) rfl (fun K hK => ?_) AllReadyH.nil)
        · skip
          have x9 := cells_top HJ1.out.z9 0 (.slice A9 nl c9) rfl
          go_simp
          clear x9
          refine hK.out _ _ (HS.out _ HJ1.out) (fun hHeld2 => ?_)
          clear hK K hHeld1
          try simp only [List.getElem_toArray, List.getElem_cons_succ, List.getElem_cons_zero, Act.put, List.setIfInBounds_toArray, List.set_cons_zero, List.set_cons_succ]
          refine wpAnyH_ready (rs := [8]) (by kernel_rfl) (by simp) ?_
          refine AllReadyH.cons (o := _) rfl (fun K hK => ?_) AllReadyH.nil
          go_simp
          have HJb := HJ1
          have HJ3 := Kp.mk (HJ1.out.below (alloc_below _ (.cells #[.int .i64 r.file, .int .i64 r.bytes, .int .i64 r.count, .slice A5 r.first.length c5, .slice A6 r.last.length c6, .int .u64 r.seq] 42)))
          refine hK.out _ _ (HS.out _ HJ3.out) (fun hHeld3 => ?_)
          clear hK K hHeld2
          try simp only [List.getElem_toArray, List.getElem_cons_succ, List.getElem_cons_zero, Act.put, List.setIfInBounds_toArray, List.set_cons_zero, List.set_cons_succ]
          refine wpAnyH_ready (rs := [9]) (by kernel_rfl) (by simp) ?_
          refine AllReadyH.cons (o := _) rfl (fun K hK => ?_) AllReadyH.nil
          refine Kd.R_append_step kRn (w0 := w) (W := w2) w.heap.size (by rfl) (.tmp 26) (.tmp 33) 24 42 (.agg #[.int .i64 0, .int .i64 0, .int .i64 0, .slice none 0 0, .slice none 0 0, .int .u64 0]) 80 rfl Try.underlying24 Try.infoRn rfl (Nat.succ_pos 5) (by decide) (.slice A9 nl c9) (rs.take k) r [.int .i64 r.file, .int .i64 r.bytes, .int .i64 r.count, .slice A5 r.first.length c5, .slice A6 r.last.length c6, .int .u64 r.seq] (fun _ => True) _ rfl rfl HM.out (fun q hq => ⟨trivial, fun e => by have := HLt.out q e.symm; omega⟩) (fun _ _ => trivial) HJb.out.r HJb.out.b HJb.out.b.size (by have := HLen.out; omega) ?_
          intro v1 w3 hR hB hg hat
          obtain ⟨A8, c8, e8⟩ := Kd.R_slice hR
          obtain ⟨m8, hm8⟩ : ∃ m8, m8 = ((rs.take k) ++ [r]).length := ⟨_, rfl⟩
          rw [← hm8] at e8
          subst e8
          clear hm8
          have HR8 := Kp.mk hR
          have H9 := Kp.mk (HJb.out.cells9 hg)
          have HN := Kp.mk (HJb.out.grown hR hB hg)
          have HSx := Kp.mk ((HJb.out.grown0 hB hg))
          clear hR hg hat
          have HB3 := Kp.mk hB
          clear hB
          refine hK.out _ _ ⟨cells_top HSx.out.1 0 _ rfl, pw_cell_below HB3.out e0, pw_cell_below HB3.out e1, pw_cell_below HB3.out e2, pw_cell_below HB3.out e3, pw_cell_below HB3.out e4, pw_cell_below HB3.out e5⟩ (fun hHeld4 => ?_)
          clear hK K hHeld3
          try simp only [List.getElem_toArray, List.getElem_cons_succ, List.getElem_cons_zero, Act.put, List.setIfInBounds_toArray, List.set_cons_zero, List.set_cons_succ]
          refine wpAnyH_take (i := 10) (oi := _) (v := ?_) rfl (by kernel_rfl) (by kernel_rfl) (by kernel_rfl) (fun _ _ _ h => h) (Or.inl ⟨by rfl, ?_⟩) (by assumption) ?_
          rotate_left
          · intro w5 hSw; (try dsimp only at hSw); go_simp; all_goals (with_reducible rfl)
          try simp only [List.getElem_toArray, List.getElem_cons_succ, List.getElem_cons_zero, Act.put, List.setIfInBounds_toArray, List.set_cons_zero, List.set_cons_succ]
          refine wpAnyH_ready (rs := [11]) (by kernel_rfl) (by simp) ?_
          refine AllReadyH.cons (o := _) rfl (fun K hK => ?_) AllReadyH.nil
          have x9 := cells_top H9.out 0 (.slice A9 nl c9) rfl
          have y9 := free_top H9.out 0
          go_simp
          refine hK.out _ _ ⟨cells_top HN.out.z4 0 _ rfl, pw_cell_below HN.out.b e0, pw_cell_below HN.out.b e1, pw_cell_below HN.out.b e2, pw_cell_below HN.out.b e3, pw_cell_below HN.out.b e4, pw_cell_below HN.out.b e5⟩ (fun hHeld8 => ?_)
          clear hK K hHeld4 x9 y9
          try simp only [List.getElem_toArray, List.getElem_cons_succ, List.getElem_cons_zero, Act.put, List.setIfInBounds_toArray, List.set_cons_zero, List.set_cons_succ]
          refine wpAnyH_done (by kernel_rfl) ?_ _
          clear hHeld8 e0 e1 e2 e3 e4 e5 b0
          go_wp2_with fail
          go_roundw
          case rel => exact ⟨k + 1, by omega, by go_num, _, ⟨by rw [Hsn.out]; exact HN.out⟩⟩
          case measure => simp [intOf]; omega
        · skip
          go_simp
          have HJb := HJ1
          have HJ2 := Kp.mk (HJ1.out.below (alloc_below _ (.cells #[.int .i64 r.file, .int .i64 r.bytes, .int .i64 r.count, .slice A5 r.first.length c5, .slice A6 r.last.length c6, .int .u64 r.seq] 42)))
          refine hK.out _ _ (HS.out _ HJ2.out) (fun hHeld2 => ?_)
          clear hK K hHeld1
          try simp only [List.getElem_toArray, List.getElem_cons_succ, List.getElem_cons_zero, Act.put, List.setIfInBounds_toArray, List.set_cons_zero, List.set_cons_succ]
          refine wpAnyH_ready (rs := [1]) (by kernel_rfl) (by simp) ?_
          refine AllReadyH.cons (o := _) rfl (fun K hK => ?_) AllReadyH.nil
          have x9 := cells_top HJ2.out.z9 0 (.slice A9 nl c9) rfl
          go_simp
          clear x9
          refine hK.out _ _ (HS.out _ HJ2.out) (fun hHeld3 => ?_)
          clear hK K hHeld2
          try simp only [List.getElem_toArray, List.getElem_cons_succ, List.getElem_cons_zero, Act.put, List.setIfInBounds_toArray, List.set_cons_zero, List.set_cons_succ]
          refine wpAnyH_ready (rs := [9]) (by kernel_rfl) (by simp) ?_
          refine AllReadyH.cons (o := _) rfl (fun K hK => ?_) AllReadyH.nil
          refine Kd.R_append_step kRn (w0 := w) (W := w2) w.heap.size (by rfl) (.tmp 26) (.tmp 33) 24 42 (.agg #[.int .i64 0, .int .i64 0, .int .i64 0, .slice none 0 0, .slice none 0 0, .int .u64 0]) 80 rfl Try.underlying24 Try.infoRn rfl (Nat.succ_pos 5) (by decide) (.slice A9 nl c9) (rs.take k) r [.int .i64 r.file, .int .i64 r.bytes, .int .i64 r.count, .slice A5 r.first.length c5, .slice A6 r.last.length c6, .int .u64 r.seq] (fun _ => True) _ rfl rfl HM.out (fun q hq => ⟨trivial, fun e => by have := HLt.out q e.symm; omega⟩) (fun _ _ => trivial) HJb.out.r HJb.out.b HJb.out.b.size (by have := HLen.out; omega) ?_
          intro v1 w3 hR hB hg hat
          obtain ⟨A8, c8, e8⟩ := Kd.R_slice hR
          obtain ⟨m8, hm8⟩ : ∃ m8, m8 = ((rs.take k) ++ [r]).length := ⟨_, rfl⟩
          rw [← hm8] at e8
          subst e8
          clear hm8
          have HR8 := Kp.mk hR
          have H9 := Kp.mk (HJb.out.cells9 hg)
          have HN := Kp.mk (HJb.out.grown hR hB hg)
          have HSx := Kp.mk ((HJb.out.grown0 hB hg))
          clear hR hg hat
          have HB3 := Kp.mk hB
          clear hB
          refine hK.out _ _ ⟨cells_top HSx.out.1 0 _ rfl, pw_cell_below HB3.out e0, pw_cell_below HB3.out e1, pw_cell_below HB3.out e2, pw_cell_below HB3.out e3, pw_cell_below HB3.out e4, pw_cell_below HB3.out e5⟩ (fun hHeld4 => ?_)
          clear hK K hHeld3
          try simp only [List.getElem_toArray, List.getElem_cons_succ, List.getElem_cons_zero, Act.put, List.setIfInBounds_toArray, List.set_cons_zero, List.set_cons_succ]
          refine wpAnyH_take (i := 10) (oi := _) (v := ?_) rfl (by kernel_rfl) (by kernel_rfl) (by kernel_rfl) (fun _ _ _ h => h) (Or.inl ⟨by rfl, ?_⟩) (by assumption) ?_
          rotate_left
          · intro w5 hSw; (try dsimp only at hSw); go_simp; all_goals (with_reducible rfl)
          try simp only [List.getElem_toArray, List.getElem_cons_succ, List.getElem_cons_zero, Act.put, List.setIfInBounds_toArray, List.set_cons_zero, List.set_cons_succ]
          refine wpAnyH_ready (rs := [11]) (by kernel_rfl) (by simp) ?_
          refine AllReadyH.cons (o := _) rfl (fun K hK => ?_) AllReadyH.nil
          have x9 := cells_top H9.out 0 (.slice A9 nl c9) rfl
          have y9 := free_top H9.out 0
          go_simp
          refine hK.out _ _ ⟨cells_top HN.out.z4 0 _ rfl, pw_cell_below HN.out.b e0, pw_cell_below HN.out.b e1, pw_cell_below HN.out.b e2, pw_cell_below HN.out.b e3, pw_cell_below HN.out.b e4, pw_cell_below HN.out.b e5⟩ (fun hHeld8 => ?_)
          clear hK K hHeld4 x9 y9
          try simp only [List.getElem_toArray, List.getElem_cons_succ, List.getElem_cons_zero, Act.put, List.setIfInBounds_toArray, List.set_cons_zero, List.set_cons_succ]
          refine wpAnyH_done (by kernel_rfl) ?_ _
          clear hHeld8 e0 e1 e2 e3 e4 e5 b0
          go_wp2_with fail
          go_roundw
          case rel => exact ⟨k + 1, by omega, by go_num, _, ⟨by rw [Hsn.out]; exact HN.out⟩⟩
          case measure => simp [intOf]; omega
    · skip
      obtain rfl : a = k := by omega
      have HJ2 : Kp (Jn w wr #[.slice A n c, .int .i64 nx, .int .i64 lg, .int .u64 sq] #[.slice A1 n1 c1, .slice A2 n2 c2, .int .i64 enx, .int .i64 elg, .int .u64 esq] v (.int .i64 nx) (.int .i64 lg) (.int .u64 sq) (rs.take a ++ add.take 0)) := ⟨by have := HJ.out; simpa using this⟩
      have HJ := HJ2
      clear HJ2 hlt b0
      clear hk
      go_wp2_with fail
      go_loopw [11] (fun i wr => ∃ k : Nat, k ≤ n1 ∧ i = .int .i64 k ∧ ∃ v, Kp (Jn w wr #[.slice A n c, .int .i64 nx, .int .i64 lg, .int .u64 sq] #[.slice A1 n1 c1, .slice A2 n2 c2, .int .i64 enx, .int .i64 elg, .int .u64 esq] v (.int .i64 nx) (.int .i64 lg) (.int .u64 sq) (rs.take a ++ add.take k))) (fun i _ => n1 - (intOf i).toNat)
      case atStart => exact ⟨0, Nat.zero_le _, rfl, _, HJ⟩
      case round =>
        clear HJ
        obtain ⟨k, hk, rfl, v, HJ⟩ := hrel
        have b0 := cells_top HJ.out.z5 0 (.slice A1 n1 c1) rfl
        by_cases hlt : k < n1
        · have hki : (k : Int) < (n1 : Int) := by omega
          obtain ⟨A9, c9, e9⟩ := Kd.R_slice HJ.out.r
          subst e9
          obtain ⟨nl, hnl⟩ : ∃ nl, nl = (rs.take a ++ add.take k).length := ⟨_, rfl⟩
          rw [← hnl] at HJ
          have HLen : Kp (((rs.take a ++ add.take k).length + 1) * 80 ≤ 140737488355328) := ⟨by rw [List.length_append, List.length_take, List.length_take]; omega⟩
          clear hnl
          obtain ⟨ad, A3, c3, A4, c4, e7, e0, e1, e2, e3, e4, e5, _, g3, _, g4⟩ := rn_at H1.out k (by omega)
          subst e7
          have Hsh := Kp.mk (HSa.out k (by have := HL1.out; omega))
          have Hsn : Kp (rs.take a ++ add.take (k + 1) = rs.take a ++ add.take k ++ [add.getD k zRn]) := ⟨by rw [take_snoc_run (rs := add) (by have := HL1.out; omega), List.append_assoc]⟩
          obtain ⟨r, hr⟩ : ∃ r, add.getD k zRn = r := ⟨_, rfl⟩
          rw [hr] at e0 e1 e2 e3 e4 e5 g3 g4 Hsn Hsh
          have G3 := Kp.mk g3
          have G4 := Kp.mk g4
          clear hr g3 g4
          have hkn : k < n1 := by omega
          have hkn2 : (k : Int) < (n1 : Int) := by omega
          go_wp2_with fail
          have HJ0 := Kp.mk (HJ.out.below (drew_below' wr))
          have HS : Kp (∀ W, Jn w W #[.slice A n c, .int .i64 nx, .int .i64 lg, .int .u64 sq] #[.slice (some ad) n1 c1, .slice A2 n2 c2, .int .i64 enx, .int .i64 elg, .int .u64 esq] (.slice A9 nl c9) (.int .i64 nx) (.int .i64 lg) (.int .u64 sq) (rs.take a ++ add.take k) → (fun W => W.cell? ⟨w.heap.size + 1, 0, none⟩ = some (.slice (some ad) n1 c1) ∧ W.cell? (ad.add (k * 6)) = some (.int .i64 r.file) ∧ W.cell? ⟨(ad.add (k * 6)).block, (ad.add (k * 6)).off + 1, none⟩ = some (.int .i64 r.bytes) ∧ W.cell? ⟨(ad.add (k * 6)).block, (ad.add (k * 6)).off + 2, none⟩ = some (.int .i64 r.count) ∧ W.cell? ⟨(ad.add (k * 6)).block, (ad.add (k * 6)).off + 3, none⟩ = some (.slice A3 r.first.length c3) ∧ W.cell? ⟨(ad.add (k * 6)).block, (ad.add (k * 6)).off + 4, none⟩ = some (.slice A4 r.last.length c4) ∧ W.cell? ⟨(ad.add (k * 6)).block, (ad.add (k * 6)).off + 5, none⟩ = some (.int .u64 r.seq)) W) := ⟨fun W hW => ⟨cells_top hW.z5 0 _ rfl, pw_cell_below hW.b e0, pw_cell_below hW.b e1, pw_cell_below hW.b e2, pw_cell_below hW.b e3, pw_cell_below hW.b e4, pw_cell_below hW.b e5⟩⟩
          refine wp_region_held_drew (S := fun W => W.cell? ⟨w.heap.size + 1, 0, none⟩ = some (.slice (some ad) n1 c1) ∧ W.cell? (ad.add (k * 6)) = some (.int .i64 r.file) ∧ W.cell? ⟨(ad.add (k * 6)).block, (ad.add (k * 6)).off + 1, none⟩ = some (.int .i64 r.bytes) ∧ W.cell? ⟨(ad.add (k * 6)).block, (ad.add (k * 6)).off + 2, none⟩ = some (.int .i64 r.count) ∧ W.cell? ⟨(ad.add (k * 6)).block, (ad.add (k * 6)).off + 3, none⟩ = some (.slice A3 r.first.length c3) ∧ W.cell? ⟨(ad.add (k * 6)).block, (ad.add (k * 6)).off + 4, none⟩ = some (.slice A4 r.last.length c4) ∧ W.cell? ⟨(ad.add (k * 6)).block, (ad.add (k * 6)).off + 5, none⟩ = some (.int .u64 r.seq)) (by kernel_rfl) (HS.out _ HJ0.out) (fun hHeld => ?_)
          refine wpAnyH_take (i := 0) (oi := _) (v := ?_) rfl (by kernel_rfl) (by kernel_rfl) (by kernel_rfl) (fun _ _ _ h => h) (Or.inl ⟨by rfl, ?_⟩) (by assumption) ?_
          rotate_left
          · intro w5 hSw; (try dsimp only at hSw); go_simp; all_goals (with_reducible rfl)
          try simp only [List.getElem_toArray, List.getElem_cons_succ, List.getElem_cons_zero, Act.put, List.setIfInBounds_toArray, List.set_cons_zero, List.set_cons_succ]
          refine wpAnyH_take (i := 2) (oi := _) (v := ?_) rfl (by kernel_rfl) (by kernel_rfl) (by kernel_rfl) (fun _ _ _ h => h) (Or.inl ⟨by rfl, ?_⟩) (by assumption) ?_
          rotate_left
          · intro w5 hSw; (try dsimp only at hSw); go_simp; all_goals (with_reducible rfl)
          try simp only [List.getElem_toArray, List.getElem_cons_succ, List.getElem_cons_zero, Act.put, List.setIfInBounds_toArray, List.set_cons_zero, List.set_cons_succ]
          refine wpAnyH_take (i := 3) (oi := _) (v := ?_) rfl (by kernel_rfl) (by kernel_rfl) (by kernel_rfl) (fun _ _ _ h => h) (Or.inl ⟨by rfl, ?_⟩) (by assumption) ?_
          rotate_left
          · intro w5 hSw; (try dsimp only at hSw); go_simp; all_goals (with_reducible rfl)
          try simp only [List.getElem_toArray, List.getElem_cons_succ, List.getElem_cons_zero, Act.put, List.setIfInBounds_toArray, List.set_cons_zero, List.set_cons_succ]
          refine wpAnyH_take (i := 4) (oi := _) (v := ?_) rfl (by kernel_rfl) (by kernel_rfl) (by kernel_rfl) (fun _ _ _ h => h) (Or.inl ⟨by rfl, ?_⟩) (by assumption) ?_
          rotate_left
          · intro w5 hSw; (try dsimp only at hSw); go_simp; all_goals (with_reducible rfl)
          try simp only [List.getElem_toArray, List.getElem_cons_succ, List.getElem_cons_zero, Act.put, List.setIfInBounds_toArray, List.set_cons_zero, List.set_cons_succ]
          refine wpAnyH_take (i := 5) (oi := _) (v := ?_) rfl (by kernel_rfl) (by kernel_rfl) (by kernel_rfl) (fun _ _ _ h => h) (Or.inl ⟨by rfl, ?_⟩) (by assumption) ?_
          rotate_left
          · intro w5 hSw; (try dsimp only at hSw); go_simp; all_goals (with_reducible rfl)
          try simp only [List.getElem_toArray, List.getElem_cons_succ, List.getElem_cons_zero, Act.put, List.setIfInBounds_toArray, List.set_cons_zero, List.set_cons_succ]
          refine wpAnyH_take (i := 6) (oi := _) (v := ?_) rfl (by kernel_rfl) (by kernel_rfl) (by kernel_rfl) (fun _ _ _ h => h) (Or.inl ⟨by rfl, ?_⟩) (by assumption) ?_
          rotate_left
          · intro w5 hSw; (try dsimp only at hSw); go_simp; all_goals (with_reducible rfl)
          try simp only [List.getElem_toArray, List.getElem_cons_succ, List.getElem_cons_zero, Act.put, List.setIfInBounds_toArray, List.set_cons_zero, List.set_cons_succ]
          refine wpAnyH_ready (rs := [1, 7]) (by kernel_rfl) (by simp) ?_
          refine AllReadyH.cons (o := _) rfl (fun K hK => ?_) (AllReadyH.cons (o := _) rfl (fun K hK => ?_) AllReadyH.nil)
          · skip
            have x9 := cells_top HJ0.out.z9 0 (.slice A9 nl c9) rfl
            go_simp
            clear x9
            refine hK.out _ _ (HS.out _ HJ0.out) (fun hHeld1 => ?_)
            clear hK K hHeld
            try simp only [List.getElem_toArray, List.getElem_cons_succ, List.getElem_cons_zero, Act.put, List.setIfInBounds_toArray, List.set_cons_zero, List.set_cons_succ]
            refine wpAnyH_ready (rs := [7]) (by kernel_rfl) (by simp) ?_
            refine AllReadyH.cons (o := _) rfl (fun K hK => ?_) AllReadyH.nil
            go_simp
            refine (ref_copy (Kd.C_below G3.out HJ0.out.b) (Kd.C_below G4.out HJ0.out.b) Hsh.out.1 Hsh.out.2).mono ?_
            rintro e w2 ⟨A5, c5, A6, c6, rfl, hm, hbl⟩
            have HM := Kp.mk (kRn.M_lower HJ0.out.b.size (kRn.M_mono (ok' := fun q => (_ : World).heap.size ≤ q) (fun q hq => hq.2.1) (kRn.M_bound hm)))
            have HLt := Kp.mk (Kd.R_lt HJ0.out.r)
            have HJ2 := Kp.mk (HJ0.out.below hbl)
            clear hm hbl
            refine hK.out _ _ (HS.out _ HJ2.out) (fun hHeld2 => ?_)
            clear hK K hHeld1
            try simp only [List.getElem_toArray, List.getElem_cons_succ, List.getElem_cons_zero, Act.put, List.setIfInBounds_toArray, List.set_cons_zero, List.set_cons_succ]
            refine wpAnyH_ready (rs := [8]) (by kernel_rfl) (by simp) ?_
            refine AllReadyH.cons (o := _) rfl (fun K hK => ?_) AllReadyH.nil
            go_simp
            have HJb := HJ2
            have HJ3 := Kp.mk (HJ2.out.below (alloc_below _ (.cells #[.int .i64 r.file, .int .i64 r.bytes, .int .i64 r.count, .slice A5 r.first.length c5, .slice A6 r.last.length c6, .int .u64 r.seq] 42)))
            refine hK.out _ _ (HS.out _ HJ3.out) (fun hHeld3 => ?_)
            clear hK K hHeld2
            try simp only [List.getElem_toArray, List.getElem_cons_succ, List.getElem_cons_zero, Act.put, List.setIfInBounds_toArray, List.set_cons_zero, List.set_cons_succ]
            refine wpAnyH_ready (rs := [9]) (by kernel_rfl) (by simp) ?_
            refine AllReadyH.cons (o := _) rfl (fun K hK => ?_) AllReadyH.nil
            refine Kd.R_append_step kRn (w0 := w) (W := w2) w.heap.size (by rfl) (.tmp 44) (.tmp 51) 24 42 (.agg #[.int .i64 0, .int .i64 0, .int .i64 0, .slice none 0 0, .slice none 0 0, .int .u64 0]) 80 rfl Try.underlying24 Try.infoRn rfl (Nat.succ_pos 5) (by decide) (.slice A9 nl c9) (rs.take a ++ add.take k) r [.int .i64 r.file, .int .i64 r.bytes, .int .i64 r.count, .slice A5 r.first.length c5, .slice A6 r.last.length c6, .int .u64 r.seq] (fun _ => True) _ rfl rfl HM.out (fun q hq => ⟨trivial, fun e => by have := HLt.out q e.symm; omega⟩) (fun _ _ => trivial) HJb.out.r HJb.out.b HJb.out.b.size (by have := HLen.out; omega) ?_
            intro v1 w3 hR hB hg hat
            obtain ⟨A8, c8, e8⟩ := Kd.R_slice hR
            obtain ⟨m8, hm8⟩ : ∃ m8, m8 = ((rs.take a ++ add.take k) ++ [r]).length := ⟨_, rfl⟩
            rw [← hm8] at e8
            subst e8
            clear hm8
            have HR8 := Kp.mk hR
            have H9 := Kp.mk (HJb.out.cells9 hg)
            have HN := Kp.mk (HJb.out.grown hR hB hg)
            have HSx := Kp.mk ((HJb.out.grown0 hB hg))
            clear hR hg hat
            have HB3 := Kp.mk hB
            clear hB
            refine hK.out _ _ ⟨cells_top HSx.out.2 0 _ rfl, pw_cell_below HB3.out e0, pw_cell_below HB3.out e1, pw_cell_below HB3.out e2, pw_cell_below HB3.out e3, pw_cell_below HB3.out e4, pw_cell_below HB3.out e5⟩ (fun hHeld4 => ?_)
            clear hK K hHeld3
            try simp only [List.getElem_toArray, List.getElem_cons_succ, List.getElem_cons_zero, Act.put, List.setIfInBounds_toArray, List.set_cons_zero, List.set_cons_succ]
            refine wpAnyH_take (i := 10) (oi := _) (v := ?_) rfl (by kernel_rfl) (by kernel_rfl) (by kernel_rfl) (fun _ _ _ h => h) (Or.inl ⟨by rfl, ?_⟩) (by assumption) ?_
            rotate_left
            · intro w5 hSw; (try dsimp only at hSw); go_simp; all_goals (with_reducible rfl)
            try simp only [List.getElem_toArray, List.getElem_cons_succ, List.getElem_cons_zero, Act.put, List.setIfInBounds_toArray, List.set_cons_zero, List.set_cons_succ]
            refine wpAnyH_ready (rs := [11]) (by kernel_rfl) (by simp) ?_
            refine AllReadyH.cons (o := _) rfl (fun K hK => ?_) AllReadyH.nil
            have x9 := cells_top H9.out 0 (.slice A9 nl c9) rfl
            have y9 := free_top H9.out 0
            go_simp
            refine hK.out _ _ ⟨cells_top HN.out.z5 0 _ rfl, pw_cell_below HN.out.b e0, pw_cell_below HN.out.b e1, pw_cell_below HN.out.b e2, pw_cell_below HN.out.b e3, pw_cell_below HN.out.b e4, pw_cell_below HN.out.b e5⟩ (fun hHeld8 => ?_)
            clear hK K hHeld4 x9 y9
            try simp only [List.getElem_toArray, List.getElem_cons_succ, List.getElem_cons_zero, Act.put, List.setIfInBounds_toArray, List.set_cons_zero, List.set_cons_succ]
            refine wpAnyH_done (by kernel_rfl) ?_ _
            clear hHeld8 e0 e1 e2 e3 e4 e5 b0
            go_wp2_with fail
            go_roundw
            case rel => exact ⟨k + 1, by omega, by go_num, _, ⟨by rw [Hsn.out]; exact HN.out⟩⟩
            case measure => simp [intOf]; omega
          · skip
            go_simp
            refine (ref_copy (Kd.C_below G3.out HJ0.out.b) (Kd.C_below G4.out HJ0.out.b) Hsh.out.1 Hsh.out.2).mono ?_
            rintro e w2 ⟨A5, c5, A6, c6, rfl, hm, hbl⟩
            have HM := Kp.mk (kRn.M_lower HJ0.out.b.size (kRn.M_mono (ok' := fun q => (_ : World).heap.size ≤ q) (fun q hq => hq.2.1) (kRn.M_bound hm)))
            have HLt := Kp.mk (Kd.R_lt HJ0.out.r)
            have HJ1 := Kp.mk (HJ0.out.below hbl)
            clear hm hbl
            refine hK.out _ _ (HS.out _ HJ1.out) (fun hHeld1 => ?_)
            clear hK K hHeld
            try simp only [List.getElem_toArray, List.getElem_cons_succ, List.getElem_cons_zero, Act.put, List.setIfInBounds_toArray, List.set_cons_zero, List.set_cons_succ]
            refine wpAnyH_ready (rs := [1, 8]) (by kernel_rfl) (by simp) ?_
            refine AllReadyH.cons (o := _) rfl (fun K hK => ?_) (AllReadyH.cons (o := _) rfl (fun K hK => ?_) AllReadyH.nil)
            · skip
              have x9 := cells_top HJ1.out.z9 0 (.slice A9 nl c9) rfl
              go_simp
              clear x9
              refine hK.out _ _ (HS.out _ HJ1.out) (fun hHeld2 => ?_)
              clear hK K hHeld1
              try simp only [List.getElem_toArray, List.getElem_cons_succ, List.getElem_cons_zero, Act.put, List.setIfInBounds_toArray, List.set_cons_zero, List.set_cons_succ]
              refine wpAnyH_ready (rs := [8]) (by kernel_rfl) (by simp) ?_
              refine AllReadyH.cons (o := _) rfl (fun K hK => ?_) AllReadyH.nil
              go_simp
              have HJb := HJ1
              have HJ3 := Kp.mk (HJ1.out.below (alloc_below _ (.cells #[.int .i64 r.file, .int .i64 r.bytes, .int .i64 r.count, .slice A5 r.first.length c5, .slice A6 r.last.length c6, .int .u64 r.seq] 42)))
              refine hK.out _ _ (HS.out _ HJ3.out) (fun hHeld3 => ?_)
              clear hK K hHeld2
              try simp only [List.getElem_toArray, List.getElem_cons_succ, List.getElem_cons_zero, Act.put, List.setIfInBounds_toArray, List.set_cons_zero, List.set_cons_succ]
              refine wpAnyH_ready (rs := [9]) (by kernel_rfl) (by simp) ?_
              refine AllReadyH.cons (o := _) rfl (fun K hK => ?_) AllReadyH.nil
              refine Kd.R_append_step kRn (w0 := w) (W := w2) w.heap.size (by rfl) (.tmp 44) (.tmp 51) 24 42 (.agg #[.int .i64 0, .int .i64 0, .int .i64 0, .slice none 0 0, .slice none 0 0, .int .u64 0]) 80 rfl Try.underlying24 Try.infoRn rfl (Nat.succ_pos 5) (by decide) (.slice A9 nl c9) (rs.take a ++ add.take k) r [.int .i64 r.file, .int .i64 r.bytes, .int .i64 r.count, .slice A5 r.first.length c5, .slice A6 r.last.length c6, .int .u64 r.seq] (fun _ => True) _ rfl rfl HM.out (fun q hq => ⟨trivial, fun e => by have := HLt.out q e.symm; omega⟩) (fun _ _ => trivial) HJb.out.r HJb.out.b HJb.out.b.size (by have := HLen.out; omega) ?_
              intro v1 w3 hR hB hg hat
              obtain ⟨A8, c8, e8⟩ := Kd.R_slice hR
              obtain ⟨m8, hm8⟩ : ∃ m8, m8 = ((rs.take a ++ add.take k) ++ [r]).length := ⟨_, rfl⟩
              rw [← hm8] at e8
              subst e8
              clear hm8
              have HR8 := Kp.mk hR
              have H9 := Kp.mk (HJb.out.cells9 hg)
              have HN := Kp.mk (HJb.out.grown hR hB hg)
              have HSx := Kp.mk ((HJb.out.grown0 hB hg))
              clear hR hg hat
              have HB3 := Kp.mk hB
              clear hB
              refine hK.out _ _ ⟨cells_top HSx.out.2 0 _ rfl, pw_cell_below HB3.out e0, pw_cell_below HB3.out e1, pw_cell_below HB3.out e2, pw_cell_below HB3.out e3, pw_cell_below HB3.out e4, pw_cell_below HB3.out e5⟩ (fun hHeld4 => ?_)
              clear hK K hHeld3
              try simp only [List.getElem_toArray, List.getElem_cons_succ, List.getElem_cons_zero, Act.put, List.setIfInBounds_toArray, List.set_cons_zero, List.set_cons_succ]
              refine wpAnyH_take (i := 10) (oi := _) (v := ?_) rfl (by kernel_rfl) (by kernel_rfl) (by kernel_rfl) (fun _ _ _ h => h) (Or.inl ⟨by rfl, ?_⟩) (by assumption) ?_
              rotate_left
              · intro w5 hSw; (try dsimp only at hSw); go_simp; all_goals (with_reducible rfl)
              try simp only [List.getElem_toArray, List.getElem_cons_succ, List.getElem_cons_zero, Act.put, List.setIfInBounds_toArray, List.set_cons_zero, List.set_cons_succ]
              refine wpAnyH_ready (rs := [11]) (by kernel_rfl) (by simp) ?_
              refine AllReadyH.cons (o := _) rfl (fun K hK => ?_) AllReadyH.nil
              have x9 := cells_top H9.out 0 (.slice A9 nl c9) rfl
              have y9 := free_top H9.out 0
              go_simp
              refine hK.out _ _ ⟨cells_top HN.out.z5 0 _ rfl, pw_cell_below HN.out.b e0, pw_cell_below HN.out.b e1, pw_cell_below HN.out.b e2, pw_cell_below HN.out.b e3, pw_cell_below HN.out.b e4, pw_cell_below HN.out.b e5⟩ (fun hHeld8 => ?_)
              clear hK K hHeld4 x9 y9
              try simp only [List.getElem_toArray, List.getElem_cons_succ, List.getElem_cons_zero, Act.put, List.setIfInBounds_toArray, List.set_cons_zero, List.set_cons_succ]
              refine wpAnyH_done (by kernel_rfl) ?_ _
              clear hHeld8 e0 e1 e2 e3 e4 e5 b0
              go_wp2_with fail
              go_roundw
              case rel => exact ⟨k + 1, by omega, by go_num, _, ⟨by rw [Hsn.out]; exact HN.out⟩⟩
              case measure => simp [intOf]; omega
            · skip
              go_simp
              have HJb := HJ1
              have HJ2 := Kp.mk (HJ1.out.below (alloc_below _ (.cells #[.int .i64 r.file, .int .i64 r.bytes, .int .i64 r.count, .slice A5 r.first.length c5, .slice A6 r.last.length c6, .int .u64 r.seq] 42)))
              refine hK.out _ _ (HS.out _ HJ2.out) (fun hHeld2 => ?_)
              clear hK K hHeld1
              try simp only [List.getElem_toArray, List.getElem_cons_succ, List.getElem_cons_zero, Act.put, List.setIfInBounds_toArray, List.set_cons_zero, List.set_cons_succ]
              refine wpAnyH_ready (rs := [1]) (by kernel_rfl) (by simp) ?_
              refine AllReadyH.cons (o := _) rfl (fun K hK => ?_) AllReadyH.nil
              have x9 := cells_top HJ2.out.z9 0 (.slice A9 nl c9) rfl
              go_simp
              clear x9
              refine hK.out _ _ (HS.out _ HJ2.out) (fun hHeld3 => ?_)
              clear hK K hHeld2
              try simp only [List.getElem_toArray, List.getElem_cons_succ, List.getElem_cons_zero, Act.put, List.setIfInBounds_toArray, List.set_cons_zero, List.set_cons_succ]
              refine wpAnyH_ready (rs := [9]) (by kernel_rfl) (by simp) ?_
              refine AllReadyH.cons (o := _) rfl (fun K hK => ?_) AllReadyH.nil
              refine Kd.R_append_step kRn (w0 := w) (W := w2) w.heap.size (by rfl) (.tmp 44) (.tmp 51) 24 42 (.agg #[.int .i64 0, .int .i64 0, .int .i64 0, .slice none 0 0, .slice none 0 0, .int .u64 0]) 80 rfl Try.underlying24 Try.infoRn rfl (Nat.succ_pos 5) (by decide) (.slice A9 nl c9) (rs.take a ++ add.take k) r [.int .i64 r.file, .int .i64 r.bytes, .int .i64 r.count, .slice A5 r.first.length c5, .slice A6 r.last.length c6, .int .u64 r.seq] (fun _ => True) _ rfl rfl HM.out (fun q hq => ⟨trivial, fun e => by have := HLt.out q e.symm; omega⟩) (fun _ _ => trivial) HJb.out.r HJb.out.b HJb.out.b.size (by have := HLen.out; omega) ?_
              intro v1 w3 hR hB hg hat
              obtain ⟨A8, c8, e8⟩ := Kd.R_slice hR
              obtain ⟨m8, hm8⟩ : ∃ m8, m8 = ((rs.take a ++ add.take k) ++ [r]).length := ⟨_, rfl⟩
              rw [← hm8] at e8
              subst e8
              clear hm8
              have HR8 := Kp.mk hR
              have H9 := Kp.mk (HJb.out.cells9 hg)
              have HN := Kp.mk (HJb.out.grown hR hB hg)
              have HSx := Kp.mk ((HJb.out.grown0 hB hg))
              clear hR hg hat
              have HB3 := Kp.mk hB
              clear hB
              refine hK.out _ _ ⟨cells_top HSx.out.2 0 _ rfl, pw_cell_below HB3.out e0, pw_cell_below HB3.out e1, pw_cell_below HB3.out e2, pw_cell_below HB3.out e3, pw_cell_below HB3.out e4, pw_cell_below HB3.out e5⟩ (fun hHeld4 => ?_)
              clear hK K hHeld3
              try simp only [List.getElem_toArray, List.getElem_cons_succ, List.getElem_cons_zero, Act.put, List.setIfInBounds_toArray, List.set_cons_zero, List.set_cons_succ]
              refine wpAnyH_take (i := 10) (oi := _) (v := ?_) rfl (by kernel_rfl) (by kernel_rfl) (by kernel_rfl) (fun _ _ _ h => h) (Or.inl ⟨by rfl, ?_⟩) (by assumption) ?_
              rotate_left
              · intro w5 hSw; (try dsimp only at hSw); go_simp; all_goals (with_reducible rfl)
              try simp only [List.getElem_toArray, List.getElem_cons_succ, List.getElem_cons_zero, Act.put, List.setIfInBounds_toArray, List.set_cons_zero, List.set_cons_succ]
              refine wpAnyH_ready (rs := [11]) (by kernel_rfl) (by simp) ?_
              refine AllReadyH.cons (o := _) rfl (fun K hK => ?_) AllReadyH.nil
              have x9 := cells_top H9.out 0 (.slice A9 nl c9) rfl
              have y9 := free_top H9.out 0
              go_simp
              refine hK.out _ _ ⟨cells_top HN.out.z5 0 _ rfl, pw_cell_below HN.out.b e0, pw_cell_below HN.out.b e1, pw_cell_below HN.out.b e2, pw_cell_below HN.out.b e3, pw_cell_below HN.out.b e4, pw_cell_below HN.out.b e5⟩ (fun hHeld8 => ?_)
              clear hK K hHeld4 x9 y9
              try simp only [List.getElem_toArray, List.getElem_cons_succ, List.getElem_cons_zero, Act.put, List.setIfInBounds_toArray, List.set_cons_zero, List.set_cons_succ]
              refine wpAnyH_done (by kernel_rfl) ?_ _
              clear hHeld8 e0 e1 e2 e3 e4 e5 b0
              go_wp2_with fail
              go_roundw
              case rel => exact ⟨k + 1, by omega, by go_num, _, ⟨by rw [Hsn.out]; exact HN.out⟩⟩
              case measure => simp [intOf]; omega
        · skip
          obtain rfl : n1 = k := by omega
          have HJ2 : Kp (Jn w wr #[.slice A n c, .int .i64 nx, .int .i64 lg, .int .u64 sq] #[.slice A1 n1 c1, .slice A2 n2 c2, .int .i64 enx, .int .i64 elg, .int .u64 esq] v (.int .i64 nx) (.int .i64 lg) (.int .u64 sq) (rs.take a ++ add ++ (rs.drop b).take (b - b))) := ⟨by have := HJ.out; rw [Nat.sub_self]; simpa [List.take_of_length_le (show add.length ≤ n1 by have := HL1.out; omega)] using this⟩
          have HJ := HJ2
          clear HJ2 hlt
          clear hk
          go_wp2_with fail
          go_loopw [12] (fun i wr => ∃ k : Nat, b ≤ k ∧ k ≤ n ∧ i = .int .i64 k ∧ ∃ v, Kp (Jn w wr #[.slice A n c, .int .i64 nx, .int .i64 lg, .int .u64 sq] #[.slice A1 n1 c1, .slice A2 n2 c2, .int .i64 enx, .int .i64 elg, .int .u64 esq] v (.int .i64 nx) (.int .i64 lg) (.int .u64 sq) (rs.take a ++ add ++ (rs.drop b).take (k - b)))) (fun i _ => n - (intOf i).toNat)
          case atStart => exact ⟨b, Nat.le_refl _, hbn, rfl, _, HJ⟩
          case round =>
            clear HJ
            obtain ⟨k, hkb, hk, rfl, v, HJ⟩ := hrel
            have b0 := cells_top HJ.out.z4 0 (.slice A n c) rfl
            by_cases hlt : k < n
            · have hki : (k : Int) < (n : Int) := by omega
              obtain ⟨A9, c9, e9⟩ := Kd.R_slice HJ.out.r
              subst e9
              obtain ⟨nl, hnl⟩ : ∃ nl, nl = (rs.take a ++ add ++ (rs.drop b).take (k - b)).length := ⟨_, rfl⟩
              rw [← hnl] at HJ
              have HLen : Kp (((rs.take a ++ add ++ (rs.drop b).take (k - b)).length + 1) * 80 ≤ 140737488355328) := ⟨by rw [List.length_append, List.length_append, List.length_take, List.length_take, List.length_drop]; have := HL.out; have := HL1.out; omega⟩
              clear hnl
              obtain ⟨ad, A3, c3, A4, c4, e7, e0, e1, e2, e3, e4, e5, _, g3, _, g4⟩ := rn_at H.out k (by omega)
              subst e7
              have Hsh := Kp.mk (HSr.out k (by have := HL.out; omega))
              have Hsn : Kp (rs.take a ++ add ++ (rs.drop b).take ((k + 1) - b) = rs.take a ++ add ++ (rs.drop b).take (k - b) ++ [rs.getD k zRn]) := ⟨by rw [take_snoc_drop hkb (by have := HL.out; omega)]; simp only [List.append_assoc]⟩
              obtain ⟨r, hr⟩ : ∃ r, rs.getD k zRn = r := ⟨_, rfl⟩
              rw [hr] at e0 e1 e2 e3 e4 e5 g3 g4 Hsn Hsh
              have G3 := Kp.mk g3
              have G4 := Kp.mk g4
              clear hr g3 g4
              have hkn : k < n := by omega
              have hkn2 : (k : Int) < (n : Int) := by omega
              have hdk : decide (a ≤ k) = true := decide_eq_true (by omega)
              go_wp2_with fail
              have HJ0 := Kp.mk (HJ.out.below (drew_below' wr))
              have HS : Kp (∀ W, Jn w W #[.slice (some ad) n c, .int .i64 nx, .int .i64 lg, .int .u64 sq] #[.slice A1 n1 c1, .slice A2 n2 c2, .int .i64 enx, .int .i64 elg, .int .u64 esq] (.slice A9 nl c9) (.int .i64 nx) (.int .i64 lg) (.int .u64 sq) (rs.take a ++ add ++ (rs.drop b).take (k - b)) → (fun W => W.cell? ⟨w.heap.size, 0, none⟩ = some (.slice (some ad) n c) ∧ W.cell? (ad.add (k * 6)) = some (.int .i64 r.file) ∧ W.cell? ⟨(ad.add (k * 6)).block, (ad.add (k * 6)).off + 1, none⟩ = some (.int .i64 r.bytes) ∧ W.cell? ⟨(ad.add (k * 6)).block, (ad.add (k * 6)).off + 2, none⟩ = some (.int .i64 r.count) ∧ W.cell? ⟨(ad.add (k * 6)).block, (ad.add (k * 6)).off + 3, none⟩ = some (.slice A3 r.first.length c3) ∧ W.cell? ⟨(ad.add (k * 6)).block, (ad.add (k * 6)).off + 4, none⟩ = some (.slice A4 r.last.length c4) ∧ W.cell? ⟨(ad.add (k * 6)).block, (ad.add (k * 6)).off + 5, none⟩ = some (.int .u64 r.seq)) W) := ⟨fun W hW => ⟨cells_top hW.z4 0 _ rfl, pw_cell_below hW.b e0, pw_cell_below hW.b e1, pw_cell_below hW.b e2, pw_cell_below hW.b e3, pw_cell_below hW.b e4, pw_cell_below hW.b e5⟩⟩
              refine wp_region_held_drew (S := fun W => W.cell? ⟨w.heap.size, 0, none⟩ = some (.slice (some ad) n c) ∧ W.cell? (ad.add (k * 6)) = some (.int .i64 r.file) ∧ W.cell? ⟨(ad.add (k * 6)).block, (ad.add (k * 6)).off + 1, none⟩ = some (.int .i64 r.bytes) ∧ W.cell? ⟨(ad.add (k * 6)).block, (ad.add (k * 6)).off + 2, none⟩ = some (.int .i64 r.count) ∧ W.cell? ⟨(ad.add (k * 6)).block, (ad.add (k * 6)).off + 3, none⟩ = some (.slice A3 r.first.length c3) ∧ W.cell? ⟨(ad.add (k * 6)).block, (ad.add (k * 6)).off + 4, none⟩ = some (.slice A4 r.last.length c4) ∧ W.cell? ⟨(ad.add (k * 6)).block, (ad.add (k * 6)).off + 5, none⟩ = some (.int .u64 r.seq)) (by kernel_rfl) (HS.out _ HJ0.out) (fun hHeld => ?_)
              refine wpAnyH_take (i := 0) (oi := _) (v := ?_) rfl (by kernel_rfl) (by kernel_rfl) (by kernel_rfl) (fun _ _ _ h => h) (Or.inl ⟨by rfl, ?_⟩) (by assumption) ?_
              rotate_left
              · intro w5 hSw; (try dsimp only at hSw); go_simp; all_goals (with_reducible rfl)
              try simp only [List.getElem_toArray, List.getElem_cons_succ, List.getElem_cons_zero, Act.put, List.setIfInBounds_toArray, List.set_cons_zero, List.set_cons_succ]
              refine wpAnyH_take (i := 2) (oi := _) (v := ?_) rfl (by kernel_rfl) (by kernel_rfl) (by kernel_rfl) (fun _ _ _ h => h) (Or.inl ⟨by rfl, ?_⟩) (by assumption) ?_
              rotate_left
              · intro w5 hSw; (try dsimp only at hSw); go_simp; all_goals (with_reducible rfl)
              try simp only [List.getElem_toArray, List.getElem_cons_succ, List.getElem_cons_zero, Act.put, List.setIfInBounds_toArray, List.set_cons_zero, List.set_cons_succ]
              refine wpAnyH_take (i := 3) (oi := _) (v := ?_) rfl (by kernel_rfl) (by kernel_rfl) (by kernel_rfl) (fun _ _ _ h => h) (Or.inl ⟨by rfl, ?_⟩) (by assumption) ?_
              rotate_left
              · intro w5 hSw; (try dsimp only at hSw); go_simp; all_goals (with_reducible rfl)
              try simp only [List.getElem_toArray, List.getElem_cons_succ, List.getElem_cons_zero, Act.put, List.setIfInBounds_toArray, List.set_cons_zero, List.set_cons_succ]
              refine wpAnyH_take (i := 4) (oi := _) (v := ?_) rfl (by kernel_rfl) (by kernel_rfl) (by kernel_rfl) (fun _ _ _ h => h) (Or.inl ⟨by rfl, ?_⟩) (by assumption) ?_
              rotate_left
              · intro w5 hSw; (try dsimp only at hSw); go_simp; all_goals (with_reducible rfl)
              try simp only [List.getElem_toArray, List.getElem_cons_succ, List.getElem_cons_zero, Act.put, List.setIfInBounds_toArray, List.set_cons_zero, List.set_cons_succ]
              refine wpAnyH_take (i := 5) (oi := _) (v := ?_) rfl (by kernel_rfl) (by kernel_rfl) (by kernel_rfl) (fun _ _ _ h => h) (Or.inl ⟨by rfl, ?_⟩) (by assumption) ?_
              rotate_left
              · intro w5 hSw; (try dsimp only at hSw); go_simp; all_goals (with_reducible rfl)
              try simp only [List.getElem_toArray, List.getElem_cons_succ, List.getElem_cons_zero, Act.put, List.setIfInBounds_toArray, List.set_cons_zero, List.set_cons_succ]
              refine wpAnyH_take (i := 6) (oi := _) (v := ?_) rfl (by kernel_rfl) (by kernel_rfl) (by kernel_rfl) (fun _ _ _ h => h) (Or.inl ⟨by rfl, ?_⟩) (by assumption) ?_
              rotate_left
              · intro w5 hSw; (try dsimp only at hSw); go_simp; all_goals (with_reducible rfl)
              try simp only [List.getElem_toArray, List.getElem_cons_succ, List.getElem_cons_zero, Act.put, List.setIfInBounds_toArray, List.set_cons_zero, List.set_cons_succ]
              refine wpAnyH_ready (rs := [1, 7]) (by kernel_rfl) (by simp) ?_
              refine AllReadyH.cons (o := _) rfl (fun K hK => ?_) (AllReadyH.cons (o := _) rfl (fun K hK => ?_) AllReadyH.nil)
              · skip
                have x9 := cells_top HJ0.out.z9 0 (.slice A9 nl c9) rfl
                go_simp
                clear x9
                refine hK.out _ _ (HS.out _ HJ0.out) (fun hHeld1 => ?_)
                clear hK K hHeld
                try simp only [List.getElem_toArray, List.getElem_cons_succ, List.getElem_cons_zero, Act.put, List.setIfInBounds_toArray, List.set_cons_zero, List.set_cons_succ]
                refine wpAnyH_ready (rs := [7]) (by kernel_rfl) (by simp) ?_
                refine AllReadyH.cons (o := _) rfl (fun K hK => ?_) AllReadyH.nil
                go_simp
                refine (ref_copy (Kd.C_below G3.out HJ0.out.b) (Kd.C_below G4.out HJ0.out.b) Hsh.out.1 Hsh.out.2).mono ?_
                rintro e w2 ⟨A5, c5, A6, c6, rfl, hm, hbl⟩
                have HM := Kp.mk (kRn.M_lower HJ0.out.b.size (kRn.M_mono (ok' := fun q => (_ : World).heap.size ≤ q) (fun q hq => hq.2.1) (kRn.M_bound hm)))
                have HLt := Kp.mk (Kd.R_lt HJ0.out.r)
                have HJ2 := Kp.mk (HJ0.out.below hbl)
                clear hm hbl
                refine hK.out _ _ (HS.out _ HJ2.out) (fun hHeld2 => ?_)
                clear hK K hHeld1
                try simp only [List.getElem_toArray, List.getElem_cons_succ, List.getElem_cons_zero, Act.put, List.setIfInBounds_toArray, List.set_cons_zero, List.set_cons_succ]
                refine wpAnyH_ready (rs := [8]) (by kernel_rfl) (by simp) ?_
                refine AllReadyH.cons (o := _) rfl (fun K hK => ?_) AllReadyH.nil
                go_simp
                have HJb := HJ2
                have HJ3 := Kp.mk (HJ2.out.below (alloc_below _ (.cells #[.int .i64 r.file, .int .i64 r.bytes, .int .i64 r.count, .slice A5 r.first.length c5, .slice A6 r.last.length c6, .int .u64 r.seq] 42)))
                refine hK.out _ _ (HS.out _ HJ3.out) (fun hHeld3 => ?_)
                clear hK K hHeld2
                try simp only [List.getElem_toArray, List.getElem_cons_succ, List.getElem_cons_zero, Act.put, List.setIfInBounds_toArray, List.set_cons_zero, List.set_cons_succ]
                refine wpAnyH_ready (rs := [9]) (by kernel_rfl) (by simp) ?_
                refine AllReadyH.cons (o := _) rfl (fun K hK => ?_) AllReadyH.nil
                refine Kd.R_append_step kRn (w0 := w) (W := w2) w.heap.size (by rfl) (.tmp 67) (.tmp 74) 24 42 (.agg #[.int .i64 0, .int .i64 0, .int .i64 0, .slice none 0 0, .slice none 0 0, .int .u64 0]) 80 rfl Try.underlying24 Try.infoRn rfl (Nat.succ_pos 5) (by decide) (.slice A9 nl c9) (rs.take a ++ add ++ (rs.drop b).take (k - b)) r [.int .i64 r.file, .int .i64 r.bytes, .int .i64 r.count, .slice A5 r.first.length c5, .slice A6 r.last.length c6, .int .u64 r.seq] (fun _ => True) _ rfl rfl HM.out (fun q hq => ⟨trivial, fun e => by have := HLt.out q e.symm; omega⟩) (fun _ _ => trivial) HJb.out.r HJb.out.b HJb.out.b.size (by have := HLen.out; omega) ?_
                intro v1 w3 hR hB hg hat
                obtain ⟨A8, c8, e8⟩ := Kd.R_slice hR
                obtain ⟨m8, hm8⟩ : ∃ m8, m8 = ((rs.take a ++ add ++ (rs.drop b).take (k - b)) ++ [r]).length := ⟨_, rfl⟩
                rw [← hm8] at e8
                subst e8
                clear hm8
                have HR8 := Kp.mk hR
                have H9 := Kp.mk (HJb.out.cells9 hg)
                have HN := Kp.mk (HJb.out.grown hR hB hg)
                have HSx := Kp.mk ((HJb.out.grown0 hB hg))
                clear hR hg hat
                have HB3 := Kp.mk hB
                clear hB
                refine hK.out _ _ ⟨cells_top HSx.out.1 0 _ rfl, pw_cell_below HB3.out e0, pw_cell_below HB3.out e1, pw_cell_below HB3.out e2, pw_cell_below HB3.out e3, pw_cell_below HB3.out e4, pw_cell_below HB3.out e5⟩ (fun hHeld4 => ?_)
                clear hK K hHeld3
                try simp only [List.getElem_toArray, List.getElem_cons_succ, List.getElem_cons_zero, Act.put, List.setIfInBounds_toArray, List.set_cons_zero, List.set_cons_succ]
                refine wpAnyH_take (i := 10) (oi := _) (v := ?_) rfl (by kernel_rfl) (by kernel_rfl) (by kernel_rfl) (fun _ _ _ h => h) (Or.inl ⟨by rfl, ?_⟩) (by assumption) ?_
                rotate_left
                · intro w5 hSw; (try dsimp only at hSw); go_simp; all_goals (with_reducible rfl)
                try simp only [List.getElem_toArray, List.getElem_cons_succ, List.getElem_cons_zero, Act.put, List.setIfInBounds_toArray, List.set_cons_zero, List.set_cons_succ]
                refine wpAnyH_ready (rs := [11]) (by kernel_rfl) (by simp) ?_
                refine AllReadyH.cons (o := _) rfl (fun K hK => ?_) AllReadyH.nil
                have x9 := cells_top H9.out 0 (.slice A9 nl c9) rfl
                have y9 := free_top H9.out 0
                go_simp
                refine hK.out _ _ ⟨cells_top HN.out.z4 0 _ rfl, pw_cell_below HN.out.b e0, pw_cell_below HN.out.b e1, pw_cell_below HN.out.b e2, pw_cell_below HN.out.b e3, pw_cell_below HN.out.b e4, pw_cell_below HN.out.b e5⟩ (fun hHeld8 => ?_)
                clear hK K hHeld4 x9 y9
                try simp only [List.getElem_toArray, List.getElem_cons_succ, List.getElem_cons_zero, Act.put, List.setIfInBounds_toArray, List.set_cons_zero, List.set_cons_succ]
                refine wpAnyH_done (by kernel_rfl) ?_ _
                clear hHeld8 e0 e1 e2 e3 e4 e5 b0
                go_wp2_with fail
                go_roundw
                case rel => exact ⟨k + 1, by omega, by omega, by go_num, _, ⟨by rw [Hsn.out]; exact HN.out⟩⟩
                case measure => simp [intOf]; omega
              · skip
                go_simp
                refine (ref_copy (Kd.C_below G3.out HJ0.out.b) (Kd.C_below G4.out HJ0.out.b) Hsh.out.1 Hsh.out.2).mono ?_
                rintro e w2 ⟨A5, c5, A6, c6, rfl, hm, hbl⟩
                have HM := Kp.mk (kRn.M_lower HJ0.out.b.size (kRn.M_mono (ok' := fun q => (_ : World).heap.size ≤ q) (fun q hq => hq.2.1) (kRn.M_bound hm)))
                have HLt := Kp.mk (Kd.R_lt HJ0.out.r)
                have HJ1 := Kp.mk (HJ0.out.below hbl)
                clear hm hbl
                refine hK.out _ _ (HS.out _ HJ1.out) (fun hHeld1 => ?_)
                clear hK K hHeld
                try simp only [List.getElem_toArray, List.getElem_cons_succ, List.getElem_cons_zero, Act.put, List.setIfInBounds_toArray, List.set_cons_zero, List.set_cons_succ]
                refine wpAnyH_ready (rs := [1, 8]) (by kernel_rfl) (by simp) ?_
                refine AllReadyH.cons (o := _) rfl (fun K hK => ?_) (AllReadyH.cons (o := _) rfl (fun K hK => ?_) AllReadyH.nil)
                · skip
                  have x9 := cells_top HJ1.out.z9 0 (.slice A9 nl c9) rfl
                  go_simp
                  clear x9
                  refine hK.out _ _ (HS.out _ HJ1.out) (fun hHeld2 => ?_)
                  clear hK K hHeld1
                  try simp only [List.getElem_toArray, List.getElem_cons_succ, List.getElem_cons_zero, Act.put, List.setIfInBounds_toArray, List.set_cons_zero, List.set_cons_succ]
                  refine wpAnyH_ready (rs := [8]) (by kernel_rfl) (by simp) ?_
                  refine AllReadyH.cons (o := _) rfl (fun K hK => ?_) AllReadyH.nil
                  go_simp
                  have HJb := HJ1
                  have HJ3 := Kp.mk (HJ1.out.below (alloc_below _ (.cells #[.int .i64 r.file, .int .i64 r.bytes, .int .i64 r.count, .slice A5 r.first.length c5, .slice A6 r.last.length c6, .int .u64 r.seq] 42)))
                  refine hK.out _ _ (HS.out _ HJ3.out) (fun hHeld3 => ?_)
                  clear hK K hHeld2
                  try simp only [List.getElem_toArray, List.getElem_cons_succ, List.getElem_cons_zero, Act.put, List.setIfInBounds_toArray, List.set_cons_zero, List.set_cons_succ]
                  refine wpAnyH_ready (rs := [9]) (by kernel_rfl) (by simp) ?_
                  refine AllReadyH.cons (o := _) rfl (fun K hK => ?_) AllReadyH.nil
                  refine Kd.R_append_step kRn (w0 := w) (W := w2) w.heap.size (by rfl) (.tmp 67) (.tmp 74) 24 42 (.agg #[.int .i64 0, .int .i64 0, .int .i64 0, .slice none 0 0, .slice none 0 0, .int .u64 0]) 80 rfl Try.underlying24 Try.infoRn rfl (Nat.succ_pos 5) (by decide) (.slice A9 nl c9) (rs.take a ++ add ++ (rs.drop b).take (k - b)) r [.int .i64 r.file, .int .i64 r.bytes, .int .i64 r.count, .slice A5 r.first.length c5, .slice A6 r.last.length c6, .int .u64 r.seq] (fun _ => True) _ rfl rfl HM.out (fun q hq => ⟨trivial, fun e => by have := HLt.out q e.symm; omega⟩) (fun _ _ => trivial) HJb.out.r HJb.out.b HJb.out.b.size (by have := HLen.out; omega) ?_
                  intro v1 w3 hR hB hg hat
                  obtain ⟨A8, c8, e8⟩ := Kd.R_slice hR
                  obtain ⟨m8, hm8⟩ : ∃ m8, m8 = ((rs.take a ++ add ++ (rs.drop b).take (k - b)) ++ [r]).length := ⟨_, rfl⟩
                  rw [← hm8] at e8
                  subst e8
                  clear hm8
                  have HR8 := Kp.mk hR
                  have H9 := Kp.mk (HJb.out.cells9 hg)
                  have HN := Kp.mk (HJb.out.grown hR hB hg)
                  have HSx := Kp.mk ((HJb.out.grown0 hB hg))
                  clear hR hg hat
                  have HB3 := Kp.mk hB
                  clear hB
                  refine hK.out _ _ ⟨cells_top HSx.out.1 0 _ rfl, pw_cell_below HB3.out e0, pw_cell_below HB3.out e1, pw_cell_below HB3.out e2, pw_cell_below HB3.out e3, pw_cell_below HB3.out e4, pw_cell_below HB3.out e5⟩ (fun hHeld4 => ?_)
                  clear hK K hHeld3
                  try simp only [List.getElem_toArray, List.getElem_cons_succ, List.getElem_cons_zero, Act.put, List.setIfInBounds_toArray, List.set_cons_zero, List.set_cons_succ]
                  refine wpAnyH_take (i := 10) (oi := _) (v := ?_) rfl (by kernel_rfl) (by kernel_rfl) (by kernel_rfl) (fun _ _ _ h => h) (Or.inl ⟨by rfl, ?_⟩) (by assumption) ?_
                  rotate_left
                  · intro w5 hSw; (try dsimp only at hSw); go_simp; all_goals (with_reducible rfl)
                  try simp only [List.getElem_toArray, List.getElem_cons_succ, List.getElem_cons_zero, Act.put, List.setIfInBounds_toArray, List.set_cons_zero, List.set_cons_succ]
                  refine wpAnyH_ready (rs := [11]) (by kernel_rfl) (by simp) ?_
                  refine AllReadyH.cons (o := _) rfl (fun K hK => ?_) AllReadyH.nil
                  have x9 := cells_top H9.out 0 (.slice A9 nl c9) rfl
                  have y9 := free_top H9.out 0
                  go_simp
                  refine hK.out _ _ ⟨cells_top HN.out.z4 0 _ rfl, pw_cell_below HN.out.b e0, pw_cell_below HN.out.b e1, pw_cell_below HN.out.b e2, pw_cell_below HN.out.b e3, pw_cell_below HN.out.b e4, pw_cell_below HN.out.b e5⟩ (fun hHeld8 => ?_)
                  clear hK K hHeld4 x9 y9
                  try simp only [List.getElem_toArray, List.getElem_cons_succ, List.getElem_cons_zero, Act.put, List.setIfInBounds_toArray, List.set_cons_zero, List.set_cons_succ]
                  refine wpAnyH_done (by kernel_rfl) ?_ _
                  clear hHeld8 e0 e1 e2 e3 e4 e5 b0
                  go_wp2_with fail
                  go_roundw
                  case rel => exact ⟨k + 1, by omega, by omega, by go_num, _, ⟨by rw [Hsn.out]; exact HN.out⟩⟩
                  case measure => simp [intOf]; omega
                · skip
                  go_simp
                  have HJb := HJ1
                  have HJ2 := Kp.mk (HJ1.out.below (alloc_below _ (.cells #[.int .i64 r.file, .int .i64 r.bytes, .int .i64 r.count, .slice A5 r.first.length c5, .slice A6 r.last.length c6, .int .u64 r.seq] 42)))
                  refine hK.out _ _ (HS.out _ HJ2.out) (fun hHeld2 => ?_)
                  clear hK K hHeld1
                  try simp only [List.getElem_toArray, List.getElem_cons_succ, List.getElem_cons_zero, Act.put, List.setIfInBounds_toArray, List.set_cons_zero, List.set_cons_succ]
                  refine wpAnyH_ready (rs := [1]) (by kernel_rfl) (by simp) ?_
                  refine AllReadyH.cons (o := _) rfl (fun K hK => ?_) AllReadyH.nil
                  have x9 := cells_top HJ2.out.z9 0 (.slice A9 nl c9) rfl
                  go_simp
                  clear x9
                  refine hK.out _ _ (HS.out _ HJ2.out) (fun hHeld3 => ?_)
                  clear hK K hHeld2
                  try simp only [List.getElem_toArray, List.getElem_cons_succ, List.getElem_cons_zero, Act.put, List.setIfInBounds_toArray, List.set_cons_zero, List.set_cons_succ]
                  refine wpAnyH_ready (rs := [9]) (by kernel_rfl) (by simp) ?_
                  refine AllReadyH.cons (o := _) rfl (fun K hK => ?_) AllReadyH.nil
                  refine Kd.R_append_step kRn (w0 := w) (W := w2) w.heap.size (by rfl) (.tmp 67) (.tmp 74) 24 42 (.agg #[.int .i64 0, .int .i64 0, .int .i64 0, .slice none 0 0, .slice none 0 0, .int .u64 0]) 80 rfl Try.underlying24 Try.infoRn rfl (Nat.succ_pos 5) (by decide) (.slice A9 nl c9) (rs.take a ++ add ++ (rs.drop b).take (k - b)) r [.int .i64 r.file, .int .i64 r.bytes, .int .i64 r.count, .slice A5 r.first.length c5, .slice A6 r.last.length c6, .int .u64 r.seq] (fun _ => True) _ rfl rfl HM.out (fun q hq => ⟨trivial, fun e => by have := HLt.out q e.symm; omega⟩) (fun _ _ => trivial) HJb.out.r HJb.out.b HJb.out.b.size (by have := HLen.out; omega) ?_
                  intro v1 w3 hR hB hg hat
                  obtain ⟨A8, c8, e8⟩ := Kd.R_slice hR
                  obtain ⟨m8, hm8⟩ : ∃ m8, m8 = ((rs.take a ++ add ++ (rs.drop b).take (k - b)) ++ [r]).length := ⟨_, rfl⟩
                  rw [← hm8] at e8
                  subst e8
                  clear hm8
                  have HR8 := Kp.mk hR
                  have H9 := Kp.mk (HJb.out.cells9 hg)
                  have HN := Kp.mk (HJb.out.grown hR hB hg)
                  have HSx := Kp.mk ((HJb.out.grown0 hB hg))
                  clear hR hg hat
                  have HB3 := Kp.mk hB
                  clear hB
                  refine hK.out _ _ ⟨cells_top HSx.out.1 0 _ rfl, pw_cell_below HB3.out e0, pw_cell_below HB3.out e1, pw_cell_below HB3.out e2, pw_cell_below HB3.out e3, pw_cell_below HB3.out e4, pw_cell_below HB3.out e5⟩ (fun hHeld4 => ?_)
                  clear hK K hHeld3
                  try simp only [List.getElem_toArray, List.getElem_cons_succ, List.getElem_cons_zero, Act.put, List.setIfInBounds_toArray, List.set_cons_zero, List.set_cons_succ]
                  refine wpAnyH_take (i := 10) (oi := _) (v := ?_) rfl (by kernel_rfl) (by kernel_rfl) (by kernel_rfl) (fun _ _ _ h => h) (Or.inl ⟨by rfl, ?_⟩) (by assumption) ?_
                  rotate_left
                  · intro w5 hSw; (try dsimp only at hSw); go_simp; all_goals (with_reducible rfl)
                  try simp only [List.getElem_toArray, List.getElem_cons_succ, List.getElem_cons_zero, Act.put, List.setIfInBounds_toArray, List.set_cons_zero, List.set_cons_succ]
                  refine wpAnyH_ready (rs := [11]) (by kernel_rfl) (by simp) ?_
                  refine AllReadyH.cons (o := _) rfl (fun K hK => ?_) AllReadyH.nil
                  have x9 := cells_top H9.out 0 (.slice A9 nl c9) rfl
                  have y9 := free_top H9.out 0
                  go_simp
                  refine hK.out _ _ ⟨cells_top HN.out.z4 0 _ rfl, pw_cell_below HN.out.b e0, pw_cell_below HN.out.b e1, pw_cell_below HN.out.b e2, pw_cell_below HN.out.b e3, pw_cell_below HN.out.b e4, pw_cell_below HN.out.b e5⟩ (fun hHeld8 => ?_)
                  clear hK K hHeld4 x9 y9
                  try simp only [List.getElem_toArray, List.getElem_cons_succ, List.getElem_cons_zero, Act.put, List.setIfInBounds_toArray, List.set_cons_zero, List.set_cons_succ]
                  refine wpAnyH_done (by kernel_rfl) ?_ _
                  clear hHeld8 e0 e1 e2 e3 e4 e5 b0
                  go_wp2_with fail
                  go_roundw
                  case rel => exact ⟨k + 1, by omega, by omega, by go_num, _, ⟨by rw [Hsn.out]; exact HN.out⟩⟩
                  case measure => simp [intOf]; omega
            · skip
              obtain rfl : n = k := by omega
              have HF : Kp (Jn w wr #[.slice A n c, .int .i64 nx, .int .i64 lg, .int .u64 sq] #[.slice A1 n1 c1, .slice A2 n2 c2, .int .i64 enx, .int .i64 elg, .int .u64 esq] v (.int .i64 nx) (.int .i64 lg) (.int .u64 sq) (rs.take a ++ add ++ rs.drop b)) := ⟨by have := HJ.out; rwa [List.take_of_length_le (l := rs.drop b) (by rw [List.length_drop]; have := HL.out; omega)] at this⟩
              clear HJ hlt
              have y2 := cells_top HF.out.z5 2 (.int .i64 enx) rfl
              have y3 := cells_top HF.out.z5 3 (.int .i64 elg) rfl
              have y4 := cells_top HF.out.z5 4 (.int .u64 esq) rfl
              obtain ⟨A9, c9, e9⟩ := Kd.R_slice HF.out.r
              obtain ⟨nl, hnl⟩ : ∃ nl, nl = (rs.take a ++ add ++ rs.drop b).length := ⟨_, rfl⟩
              rw [← hnl] at e9
              subst e9
              clear hnl
              have o0 := cells_top HF.out.z9 0 (.slice A9 nl c9) rfl
              have f0 := free_top HF.out.z9 0
              have o1 := cells_top HF.out.z9 1 (.int .i64 nx) rfl
              have f1 := free_top HF.out.z9 1
              have o2 := cells_top HF.out.z9 2 (.int .i64 lg) rfl
              have f2 := free_top HF.out.z9 2
              have o3 := cells_top HF.out.z9 3 (.int .u64 sq) rfl
              have f3 := free_top HF.out.z9 3
              have r0 := cells_top HF.out.z8 0 (.slice none 0 0) rfl
              have g0 := free_top HF.out.z8 0
              have r1 := cells_top HF.out.z8 1 (.int .i64 0) rfl
              have g1 := free_top HF.out.z8 1
              have r2 := cells_top HF.out.z8 2 (.int .i64 0) rfl
              have g2 := free_top HF.out.z8 2
              have r3 := cells_top HF.out.z8 3 (.int .u64 0) rfl
              have g3 := free_top HF.out.z8 3
              by_cases h0 : enx = 0
              · have b0 : (enx != 0) = false := by simpa using h0
                have l1 : Kp (laterI nx enx = nx) := ⟨if_pos h0⟩
                clear h0
                by_cases h1 : elg = 0
                · have b1 : (elg != 0) = false := by simpa using h1
                  have l2 : Kp (laterI lg elg = lg) := ⟨if_pos h1⟩
                  clear h1
                  by_cases h2 : esq = 0
                  · have b2 : (esq != 0) = false := by simpa using h2
                    have l3 : Kp (outS sq esq = sq) := ⟨if_neg (by omega)⟩
                    clear h2
                    go_wp2_with fail
                    have HZ := Jn.ret HF.out
                    refine bodyPost_ret (results_cell_row rfl _ _ (w.heap.size + 1 + 1) _ _ _ _ rfl HZ.1 Try.underlying27 rfl (by kernel_rfl)) rfl ?_
                    exact ⟨_, by rw [l1.out, l2.out, l3.out], HZ.2.1, HZ.2.2⟩
                  · have b2 : (esq != 0) = true := by simpa using h2
                    have l3 : Kp (outS sq esq = esq) := ⟨if_pos (by omega)⟩
                    clear h2
                    go_wp2_with fail
                    have HZ := Jn.ret (HF.out.set3 (.int .u64 esq))
                    refine bodyPost_ret (results_cell_row rfl _ _ (w.heap.size + 1 + 1) _ _ _ _ rfl HZ.1 Try.underlying27 rfl (by kernel_rfl)) rfl ?_
                    exact ⟨_, by rw [l1.out, l2.out, l3.out], HZ.2.1, HZ.2.2⟩
                · have b1 : (elg != 0) = true := by simpa using h1
                  have l2 : Kp (laterI lg elg = elg) := ⟨if_neg h1⟩
                  clear h1
                  by_cases h2 : esq = 0
                  · have b2 : (esq != 0) = false := by simpa using h2
                    have l3 : Kp (outS sq esq = sq) := ⟨if_neg (by omega)⟩
                    clear h2
                    go_wp2_with fail
                    have HZ := Jn.ret (HF.out.set2 (.int .i64 elg))
                    refine bodyPost_ret (results_cell_row rfl _ _ (w.heap.size + 1 + 1) _ _ _ _ rfl HZ.1 Try.underlying27 rfl (by kernel_rfl)) rfl ?_
                    exact ⟨_, by rw [l1.out, l2.out, l3.out], HZ.2.1, HZ.2.2⟩
                  · have b2 : (esq != 0) = true := by simpa using h2
                    have l3 : Kp (outS sq esq = esq) := ⟨if_pos (by omega)⟩
                    clear h2
                    go_wp2_with fail
                    have HZ := Jn.ret ((HF.out.set2 (.int .i64 elg)).set3 (.int .u64 esq))
                    refine bodyPost_ret (results_cell_row rfl _ _ (w.heap.size + 1 + 1) _ _ _ _ rfl HZ.1 Try.underlying27 rfl (by kernel_rfl)) rfl ?_
                    exact ⟨_, by rw [l1.out, l2.out, l3.out], HZ.2.1, HZ.2.2⟩
              · have b0 : (enx != 0) = true := by simpa using h0
                have l1 : Kp (laterI nx enx = enx) := ⟨if_neg h0⟩
                clear h0
                by_cases h1 : elg = 0
                · have b1 : (elg != 0) = false := by simpa using h1
                  have l2 : Kp (laterI lg elg = lg) := ⟨if_pos h1⟩
                  clear h1
                  by_cases h2 : esq = 0
                  · have b2 : (esq != 0) = false := by simpa using h2
                    have l3 : Kp (outS sq esq = sq) := ⟨if_neg (by omega)⟩
                    clear h2
                    go_wp2_with fail
                    have HZ := Jn.ret (HF.out.set1 (.int .i64 enx))
                    refine bodyPost_ret (results_cell_row rfl _ _ (w.heap.size + 1 + 1) _ _ _ _ rfl HZ.1 Try.underlying27 rfl (by kernel_rfl)) rfl ?_
                    exact ⟨_, by rw [l1.out, l2.out, l3.out], HZ.2.1, HZ.2.2⟩
                  · have b2 : (esq != 0) = true := by simpa using h2
                    have l3 : Kp (outS sq esq = esq) := ⟨if_pos (by omega)⟩
                    clear h2
                    go_wp2_with fail
                    have HZ := Jn.ret ((HF.out.set1 (.int .i64 enx)).set3 (.int .u64 esq))
                    refine bodyPost_ret (results_cell_row rfl _ _ (w.heap.size + 1 + 1) _ _ _ _ rfl HZ.1 Try.underlying27 rfl (by kernel_rfl)) rfl ?_
                    exact ⟨_, by rw [l1.out, l2.out, l3.out], HZ.2.1, HZ.2.2⟩
                · have b1 : (elg != 0) = true := by simpa using h1
                  have l2 : Kp (laterI lg elg = elg) := ⟨if_neg h1⟩
                  clear h1
                  by_cases h2 : esq = 0
                  · have b2 : (esq != 0) = false := by simpa using h2
                    have l3 : Kp (outS sq esq = sq) := ⟨if_neg (by omega)⟩
                    clear h2
                    go_wp2_with fail
                    have HZ := Jn.ret ((HF.out.set1 (.int .i64 enx)).set2 (.int .i64 elg))
                    refine bodyPost_ret (results_cell_row rfl _ _ (w.heap.size + 1 + 1) _ _ _ _ rfl HZ.1 Try.underlying27 rfl (by kernel_rfl)) rfl ?_
                    exact ⟨_, by rw [l1.out, l2.out, l3.out], HZ.2.1, HZ.2.2⟩
                  · have b2 : (esq != 0) = true := by simpa using h2
                    have l3 : Kp (outS sq esq = esq) := ⟨if_pos (by omega)⟩
                    clear h2
                    go_wp2_with fail
                    have HZ := Jn.ret (((HF.out.set1 (.int .i64 enx)).set2 (.int .i64 elg)).set3 (.int .u64 esq))
                    refine bodyPost_ret (results_cell_row rfl _ _ (w.heap.size + 1 + 1) _ _ _ _ rfl HZ.1 Try.underlying27 rfl (by kernel_rfl)) rfl ?_
                    exact ⟨_, by rw [l1.out, l2.out, l3.out], HZ.2.1, HZ.2.2⟩
end Go.Proofs.Ytgfkpddmjcgceaa.Kx
