import Derived.Test.YtinffeffffligaaBlZi
set_option linter.unusedVariables false
set_option linter.unusedSimpArgs false
namespace Go.Proofs.Ytinffeffffligaa.Bas
open Go.RowKit Go.Maps

set_option maxHeartbeats 8000000 in
set_option maxRecDepth 100000 in
theorem reader_entries {w : World} {g : Nat} {A : Option Addr} {n c : Nat} {xs : List Int} {R : List Nat} {A5 : Option Addr} {n5 c5 : Nat}
    (hg : w.heap[g]? = some (.cells #[.slice A n c, .int .i64 (0 : Nat), .slice none 0 0, .slice none 0 0, .slice none 0 0, .slice A5 n5 c5] 87 (0, 0)))
    (h : Rd w .u8 A n c xs) (hA : ∀ ad, A = some ad → 0 < n → ad.block ≠ g) (h5 : Rd w .i64 A5 n5 c5 (intsN R)) (hA5 : ∀ ad, A5 = some ad → 0 < n5 → ad.block ≠ g) (hc : n ≤ c) (hb : Byt xs) (hn : n ≤ 1000000) (hn5 : n5 ≤ 1000000) :
    Calls Try.prog 52 #[.pointer (some ⟨g, 0, none⟩)] w (EntsP xs R g A n c (.slice A5 n5 c5) w) := by
  have hl := h.len
  have hgl := lt_of_block hg
  have h5l : R.length = n5 := by have := h5.len; rw [intsN_len] at this; exact this
  have HR0 : Kp (Rr w.heap.size w g A n c xs 0 [] [] (.slice none 0 0) (.slice none 0 0) (.slice none 0 0) (.slice A5 n5 c5)) :=
    ⟨⟨hg, h, Nu.nil _ _ _ _, Ow.nil _ _, hgl, (fun ad e hn => ⟨h.lt ad e hn, hA ad e hn⟩), (fun p hp => by cases hp)⟩⟩
  have H5 := Kp.mk h5
  have HA5 := Kp.mk hA5
  have HBy := Kp.mk hb
  clear hg h hA h5 hA5 hb
  go_enter Try.func52, Try.ntmps52
  go_wp2_with fail
  go_loopw [3] (fun i wr => ∃ (a k : Nat) (last : List Int) (ps : List Pr) (bs : List Nat) (Al Ao Ab : Option Addr) (nl cl no co nb cb : Nat), i = .int .i64 (k : Nat) ∧ a ≤ n ∧ last.length ≤ 264 ∧ Kp (Byt last) ∧
      Kp (Rr w.heap.size wr g A n c xs a last ps (.slice Al nl cl) (.slice Ao no co) (.slice Ab nb cb) (.slice A5 n5 c5)) ∧ Kp (Rn xs R (ps.map (fun p : Pr => p.2)) bs a last k) ∧ Kp (Nu .i64 3 w.heap.size wr (.slice Ab nb cb) (intsN bs)) ∧
      Kp (Apt (.slice Al nl cl) (.slice Ao no co) (.slice Ab nb cb) ps) ∧ Kp (Fr w wr (fun k => k = g ∨ w.heap.size ≤ k))) (fun _ wr => (match wr.cell? ⟨g, 1, none⟩ with | some (.int _ z) => n - z.toNat | _ => 0))
  case atStart => exact ⟨0, 0, [], [], [], none, none, none, 0, 0, 0, 0, 0, 0, rfl, Nat.zero_le _, Nat.zero_le _, ⟨fun x hx => by cases hx⟩, HR0, ⟨rn_none xs R⟩, ⟨Nu.nil _ _ _ _⟩, ⟨⟨fun q hq => by cases hq⟩⟩, ⟨Fr.refl w _⟩⟩
  case round =>
    obtain ⟨a, k, last, ps, bs, Al, Ao, Ab, nl, cl, no, co, nb, cb, rfl, ha, hll, HLb, HR, HN, HBs, HAp, HF⟩ := hrel
    have c1 := cells_top HR.out.head 1 (.int .i64 (a : Nat)) rfl
    have b0 := blw_cell (cells_top HR.out.head 0 (.slice A n c) rfl)
    have b1 := blw_cell c1
    have hkR := HN.out.kR
    by_cases hlt : a < n
    · have hax : a < xs.length := by omega
      go_wp2_with fail
      refine wp_region_below (by kernel_rfl) (by kernel_rfl) ?_
      repeat (first | go_big_quiet_step (fail) | quiet_step (fail))
      refine wpQuiet_nil ?_
      rintro _ ⟨pq, rfl⟩
      obtain ⟨U, hU⟩ : ∃ W, W = pq.v := ⟨_, rfl⟩
      have hpq := pq.h
      rw [← hU] at hpq ⊢
      have HRU := Kp.mk (HR.out.below hpq)
      have HBsU := Kp.mk (HBs.out.below hpq)
      have HFU := Kp.mk (HF.out.below hpq)
      have h5u := (H5.out.kept HF.out (fun ad e hn => fun hS => by
        rcases hS with hS | hS
        · exact HA5.out ad e hn hS
        · have := H5.out.lt ad e hn; omega)).below hpq
      have q1 := blw_cell (cells_top HRU.out.head 1 (.int .i64 (a : Nat)) rfl)
      have q2 := blw_cell (cells_top HRU.out.head 5 (.slice A5 n5 c5) rfl)
      clear hU hpq b0 b1
      by_cases hkn : k < n5
      · obtain ⟨x, hx⟩ : ∃ x, x = R.getD k 0 := ⟨_, rfl⟩
        obtain ⟨ad, hAd, hcd⟩ := h5u.cell (by omega)
        have hck := hcd k hkn
        rw [intsN_get R (by omega), ← hx] at hck
        have hRx := getD_some (R := R) (k := k) (by omega) hx
        have q3 := blw_cell hck
        subst hAd
        have hnk : ¬ n5 ≤ k := by omega
        clear hcd hck h5u hx
        by_cases hxa : x = a
        · have hax' := hxa.symm
          subst hax'
          have HRS : Kp (true = decide (R[k]? = some a)) := ⟨by rw [hRx]; simp⟩
          clear hRx hxa
          go_wp2_with fail
          refine wp_region_below (by kernel_rfl) (by kernel_rfl) ?_
          repeat (first | go_big_quiet_step (fail) | quiet_step (fail))
          refine wpQuiet_nil ?_
          rintro _ ⟨pz, rfl⟩
          obtain ⟨V1, hV1⟩ : ∃ W, W = pz.v := ⟨_, rfl⟩
          have hpz := pz.h
          rw [← hV1] at hpz ⊢
          have R1 := Kp.mk (HRU.out.below hpz)
          have B1 := Kp.mk (HBsU.out.below hpz)
          have F1 := Kp.mk (HFU.out.below hpz)
          have g3 := cells_top R1.out.head 3 (.slice Ao no co) rfl
          have g4 := cells_top R1.out.head 4 (.slice Ab nb cb) rfl
          have g3' := cell_kept (alloc_below V1 (.cells #[.int .i64 (no : Int)] 3)) g3
          have g4' := cell_kept (alloc_below V1 (.cells #[.int .i64 (no : Int)] 3)) g4
          have hb2 : Below V1.heap.size V1 (V1.alloc (.cells #[.int .i64 (no : Int)] 3)).drew := (alloc_below V1 _).drew
          have hr2 := (rd_new1 V1 .i64 3 (no : Int)).below ((Below.refl _ _).drew)
          obtain ⟨W2, hW2⟩ : ∃ W, W = (V1.alloc (.cells #[.int .i64 (no : Int)] 3)).drew := ⟨_, rfl⟩
          rw [← hW2] at hb2 hr2
          have HW2 := Kp.mk hW2
          have R2 := Kp.mk (R1.out.below hb2)
          have B2 := Kp.mk (B1.out.below hb2)
          have F2 := Kp.mk (F1.out.below hb2)
          have HR2 := Kp.mk hr2
          have HS2 : Kp (w.heap.size ≤ W2.heap.size) := ⟨F2.out.size⟩
          have HBL : Kp (((intsN bs).length + 1) * 8 ≤ 140737488355328) := ⟨by
            have h1 := HN.out.good.len
            have h2 := HN.out.kl
            have h3 := HN.out.kR
            rw [intsN_len]
            have h4 : n5 ≤ 1000000 := hn5
            omega⟩
          have hgn : some g ≠ (Value.slice Ab nb cb).ownBlock := fun e => by have := B2.out.base g e.symm; have := R2.out.gB; omega
          have HGN := Kp.mk hgn
          have hno : no = ps.length := by
            obtain ⟨A1, c1, e1⟩ := R2.out.ow.slice
            injection e1
          have HNO := Kp.mk hno
          clear hV1 hpz hb2 hr2 hW2 hgn hno q1 q2 q3
          go_wp2_with fail
          go_region_law ((rw [← HW2.out]; refine step_append_nu2 (w := W2) rfl (.tmp 41) (.tmp 47) 41 3 .i64 8 w.heap.size rfl Try.underlying41 Try.infoI64 eight_pos (.slice Ab nb cb) 1 1 (intsN bs) [(no : Int)] ⟨V1.heap.size, 0, none⟩ rfl rfl B2.out HR2.out HBL.out HS2.out ?_; intro A9 n9 c9 V3 h1 h2 h3; have HB3 := Kp.mk h1; have HF3 := Kp.mk h2; have HN3 := Kp.mk h3; have hh3 := (h2.block g (lt_of_block R2.out.head) HGN.out).trans R2.out.head; have f4 := free_top hh3 4; have d4 := cells_top hh3 4 (.slice Ab nb cb) rfl; have d3 := cells_top hh3 3 (.slice Ao no co) rfl; have HH3 := Kp.mk hh3; clear h1 h2 h3 hh3))
          all_goals
            go_wp2_with fail
            have hh4 := heap_setCell_same V3 g 4 _ _ (.slice A9 n9 c9) HH3.out
            have hf4 : Fr V3 (V3.setCell ⟨g, 4, none⟩ (.slice A9 n9 c9)) (fun k => k = g) := (Fr.refl V3 (fun k => k = g)).setCell (a := ⟨g, 4, none⟩) (.inl rfl) (.slice A9 n9 c9)
            obtain ⟨V4, hV4⟩ : ∃ W, W = V3.setCell ⟨g, 4, none⟩ (.slice A9 n9 c9) := ⟨_, rfl⟩
            rw [← hV4] at hh4 hf4 ⊢
            have RU := Kp.mk (R2.out.begin HF3.out HAp.out B2.out.base hf4 hh4)
            have BSU : Kp (Nu .i64 3 w.heap.size V4 (.slice A9 n9 c9) (intsN (bs ++ [ps.length]))) := ⟨by
              have h1 := HB3.out.kept hf4 (fun q hq e => by have := HB3.out.base q hq; have := R2.out.gB; omega)
              rw [HNO.out] at h1
              simpa [intsN] using h1⟩
            have FU := Kp.mk ((F2.out.trans HF3.out (fun q hq => .inl (.inr (B2.out.base q hq.symm)))).trans hf4 (fun q hq => .inl (.inl hq)))
            have APU := Kp.mk (HAp.out.begin (w := W2) HN3.out R2.out.nu.lt (own_blk_lt R2.out.ow.own) (fun p hp A n c hm hn => (R2.out.ow.en p hp).lt A n c hm hn))
            clear hh4 hf4 hV4 g3 g3' g4 g4' d4 d3 f4
            have HBU : Kp (w.heap.size ≤ V4.heap.size) := ⟨FU.out.size⟩
            have hps : ps.length ≤ 10000 := by have := HN.out.good.len; rw [List.length_map] at this; exact this
            have HEn := Kp.mk (reader_entry RU.out HBU.out hc HBy.out hn ha hll HLb.out hps true)
            clear HB3 HF3
            go_wp2_with fail
            refine HEn.out.mono ?_
            rintro e w4 ⟨hf4, (⟨en, t, vs, v2', v3', hst, rfl, hR4, hby, h2n, h3n, hvn⟩ | ⟨hno, rfl⟩)⟩
            · obtain ⟨_, _, _, _, _, _, _, _, y1, _, y2⟩ := hR4.ow.en (vs, en) (by simp)
              have HN4 : Kp (Rn xs R ((ps ++ [(vs, en)]).map (fun p : Pr => p.2)) (bs ++ [ps.length]) t (kb en.k) (k + 1)) := ⟨by
                have := HN.out.step hax HRS.out hst ⟨y1, y2⟩
                rw [List.map_append]
                simpa using this⟩
              have HBl := BSU.out.lt
              have HBs4 := Kp.mk (BSU.out.kept hf4 (fun q hq e => by
                rcases e with e | e
                · have := BSU.out.base q hq; have := RU.out.gB; omega
                · exact (APU.out.out q hq).2.1 e.symm))
              have HAp4 := Kp.mk (APU.out.entry (en := en) HBl h2n h3n hvn)
              have HF4 := Kp.mk (FU.out.trans hf4 (fun q hq => by
                rcases hq with hq | hq
                · exact .inl (.inl hq)
                · exact .inl (.inr (RU.out.ow.base q hq.symm))))
              obtain ⟨Al4, cl4, e4⟩ := hR4.nu.slice
              subst e4
              obtain ⟨Ao4, co4, e5⟩ := hR4.ow.slice
              subst e5
              have HR4 := Kp.mk hR4
              have htn : t ≤ n := by have := hst.le; omega
              have hkl : (kb en.k).length ≤ 264 := by rw [kb_len]; have := hst.right.key.len; omega
              have hat : a < t := by have := hst.lstep.grow; omega
              have HBy4 := Kp.mk hby
              have m1 := cells_top hR4.head 1 (.int .i64 (t : Nat)) rfl
              clear hf4 hst hR4 hby h2n h3n hvn y1 y2 HBl
              go_wp2_with fail
              go_roundw
              case rel => exact ⟨t, (k + 1), kb en.k, _, _, Al4, Ao4, _, _, cl4, _, co4, _, _, by go_num, htn, hkl, HBy4, HR4, HN4, HBs4, HAp4, HF4⟩
              case measure => simp [c1, m1]; omega
            · have HNo := Kp.mk (HN.out.fails hax HRS.out hno)
              have HF4 := Kp.mk (FU.out.trans hf4 (fun q hq => by
                rcases hq with hq | hq
                · exact .inl (.inl hq)
                · exact .inl (.inr (RU.out.ow.base q hq.symm))))
              clear hf4 hno
              go_wp2_with fail
              go_ret
              exact ⟨HF4.out, .inr ⟨HNo.out, rfl⟩⟩

        · have HRS : Kp (false = decide (R[k]? = some a)) := ⟨by rw [hRx]; symm; rw [decide_eq_false_iff_not]; intro e; injection e with e; exact hxa e⟩
          have hb1 : ((x : Int) == (a : Int)) = false := by rw [beq_eq_false_iff_ne]; omega
          clear hRx hxa
          go_wp2_with fail
          refine wp_region_below (by kernel_rfl) (by kernel_rfl) ?_
          repeat (first | go_big_quiet_step (fail) | quiet_step (fail))
          refine wpQuiet_nil ?_
          rintro _ ⟨pz, rfl⟩
          have RU := Kp.mk (HRU.out.below pz.h)
          have BSU := Kp.mk (HBsU.out.below pz.h)
          have APU := HAp
          have FU := Kp.mk (HFU.out.below pz.h)
          have HBU : Kp (w.heap.size ≤ pz.v.heap.size) := ⟨FU.out.size⟩
          have hps : ps.length ≤ 10000 := by have := HN.out.good.len; rw [List.length_map] at this; exact this
          have HEn := Kp.mk (reader_entry RU.out HBU.out hc HBy.out hn ha hll HLb.out hps false)
          clear q1 q2 q3
          go_wp2_with fail
          refine HEn.out.mono ?_
          rintro e w4 ⟨hf4, (⟨en, t, vs, v2', v3', hst, rfl, hR4, hby, h2n, h3n, hvn⟩ | ⟨hno, rfl⟩)⟩
          · obtain ⟨_, _, _, _, _, _, _, _, y1, _, y2⟩ := hR4.ow.en (vs, en) (by simp)
            have HN4 : Kp (Rn xs R ((ps ++ [(vs, en)]).map (fun p : Pr => p.2)) bs t (kb en.k) k) := ⟨by
              have := HN.out.step hax HRS.out hst ⟨y1, y2⟩
              rw [List.map_append]
              simpa using this⟩
            have HBl := BSU.out.lt
            have HBs4 := Kp.mk (BSU.out.kept hf4 (fun q hq e => by
              rcases e with e | e
              · have := BSU.out.base q hq; have := RU.out.gB; omega
              · exact (APU.out.out q hq).2.1 e.symm))
            have HAp4 := Kp.mk (APU.out.entry (en := en) HBl h2n h3n hvn)
            have HF4 := Kp.mk (FU.out.trans hf4 (fun q hq => by
              rcases hq with hq | hq
              · exact .inl (.inl hq)
              · exact .inl (.inr (RU.out.ow.base q hq.symm))))
            obtain ⟨Al4, cl4, e4⟩ := hR4.nu.slice
            subst e4
            obtain ⟨Ao4, co4, e5⟩ := hR4.ow.slice
            subst e5
            have HR4 := Kp.mk hR4
            have htn : t ≤ n := by have := hst.le; omega
            have hkl : (kb en.k).length ≤ 264 := by rw [kb_len]; have := hst.right.key.len; omega
            have hat : a < t := by have := hst.lstep.grow; omega
            have HBy4 := Kp.mk hby
            have m1 := cells_top hR4.head 1 (.int .i64 (t : Nat)) rfl
            clear hf4 hst hR4 hby h2n h3n hvn y1 y2 HBl
            go_wp2_with fail
            go_roundw
            case rel => exact ⟨t, k, kb en.k, _, _, Al4, Ao4, _, _, cl4, _, co4, _, _, by go_num, htn, hkl, HBy4, HR4, HN4, HBs4, HAp4, HF4⟩
            case measure => simp [c1, m1]; omega
          · have HNo := Kp.mk (HN.out.fails hax HRS.out hno)
            have HF4 := Kp.mk (FU.out.trans hf4 (fun q hq => by
              rcases hq with hq | hq
              · exact .inl (.inl hq)
              · exact .inl (.inr (RU.out.ow.base q hq.symm))))
            clear hf4 hno
            go_wp2_with fail
            go_ret
            exact ⟨HF4.out, .inr ⟨HNo.out, rfl⟩⟩

      · have HRS : Kp (false = decide (R[k]? = some a)) := ⟨by rw [List.getElem?_eq_none (by omega)]; simp⟩
        have hnk : n5 ≤ k := by omega
        have q3 : True := trivial
        clear h5u
        go_wp2_with fail
        refine wp_region_below (by kernel_rfl) (by kernel_rfl) ?_
        repeat (first | go_big_quiet_step (fail) | quiet_step (fail))
        refine wpQuiet_nil ?_
        rintro _ ⟨pz, rfl⟩
        have RU := Kp.mk (HRU.out.below pz.h)
        have BSU := Kp.mk (HBsU.out.below pz.h)
        have APU := HAp
        have FU := Kp.mk (HFU.out.below pz.h)
        have HBU : Kp (w.heap.size ≤ pz.v.heap.size) := ⟨FU.out.size⟩
        have hps : ps.length ≤ 10000 := by have := HN.out.good.len; rw [List.length_map] at this; exact this
        have HEn := Kp.mk (reader_entry RU.out HBU.out hc HBy.out hn ha hll HLb.out hps false)
        clear q1 q2 q3
        go_wp2_with fail
        refine HEn.out.mono ?_
        rintro e w4 ⟨hf4, (⟨en, t, vs, v2', v3', hst, rfl, hR4, hby, h2n, h3n, hvn⟩ | ⟨hno, rfl⟩)⟩
        · obtain ⟨_, _, _, _, _, _, _, _, y1, _, y2⟩ := hR4.ow.en (vs, en) (by simp)
          have HN4 : Kp (Rn xs R ((ps ++ [(vs, en)]).map (fun p : Pr => p.2)) bs t (kb en.k) k) := ⟨by
            have := HN.out.step hax HRS.out hst ⟨y1, y2⟩
            rw [List.map_append]
            simpa using this⟩
          have HBl := BSU.out.lt
          have HBs4 := Kp.mk (BSU.out.kept hf4 (fun q hq e => by
            rcases e with e | e
            · have := BSU.out.base q hq; have := RU.out.gB; omega
            · exact (APU.out.out q hq).2.1 e.symm))
          have HAp4 := Kp.mk (APU.out.entry (en := en) HBl h2n h3n hvn)
          have HF4 := Kp.mk (FU.out.trans hf4 (fun q hq => by
            rcases hq with hq | hq
            · exact .inl (.inl hq)
            · exact .inl (.inr (RU.out.ow.base q hq.symm))))
          obtain ⟨Al4, cl4, e4⟩ := hR4.nu.slice
          subst e4
          obtain ⟨Ao4, co4, e5⟩ := hR4.ow.slice
          subst e5
          have HR4 := Kp.mk hR4
          have htn : t ≤ n := by have := hst.le; omega
          have hkl : (kb en.k).length ≤ 264 := by rw [kb_len]; have := hst.right.key.len; omega
          have hat : a < t := by have := hst.lstep.grow; omega
          have HBy4 := Kp.mk hby
          have m1 := cells_top hR4.head 1 (.int .i64 (t : Nat)) rfl
          clear hf4 hst hR4 hby h2n h3n hvn y1 y2 HBl
          go_wp2_with fail
          go_roundw
          case rel => exact ⟨t, k, kb en.k, _, _, Al4, Ao4, _, _, cl4, _, co4, _, _, by go_num, htn, hkl, HBy4, HR4, HN4, HBs4, HAp4, HF4⟩
          case measure => simp [c1, m1]; omega
        · have HNo := Kp.mk (HN.out.fails hax HRS.out hno)
          have HF4 := Kp.mk (FU.out.trans hf4 (fun q hq => by
            rcases hq with hq | hq
            · exact .inl (.inl hq)
            · exact .inl (.inr (RU.out.ow.base q hq.symm))))
          clear hf4 hno
          go_wp2_with fail
          go_ret
          exact ⟨HF4.out, .inr ⟨HNo.out, rfl⟩⟩

    · obtain rfl : n = a := by omega
      have b5 := cells_top HR.out.head 5 (.slice A5 n5 c5) rfl
      go_wp2_with fail
      refine wp_region_below (by kernel_rfl) (by kernel_rfl) ?_
      repeat (first | go_big_quiet_step (fail) | quiet_step (fail))
      refine wpQuiet_nil ?_
      rintro _ ⟨pq, rfl⟩
      obtain ⟨U, hU⟩ : ∃ W, W = pq.v := ⟨_, rfl⟩
      have hpq := pq.h
      rw [← hU] at hpq ⊢
      have HRU := Kp.mk (HR.out.below hpq)
      have HBsU := Kp.mk (HBs.out.below hpq)
      have HFU := Kp.mk (HF.out.below hpq)
      have b5u := cells_top HRU.out.head 5 (.slice A5 n5 c5) rfl
      clear hU hpq b0 b1 b5 c1
      by_cases hk : k = n5
      · have HN4 : Kp (Rn xs R (ps.map (fun p : Pr => p.2)) bs n last R.length) := ⟨by have := HN.out; rw [hk, ← h5l] at this; exact this⟩
        have hk1 : ((k : Int) == (n5 : Int)) = true := by rw [beq_iff_eq]; omega
        clear hk
        go_wp2_with fail
        go_ret
        exact ⟨HFU.out, .inl ⟨ps, bs, last, _, _, _, rfl, HN4.out, HRU.out.head, HRU.out.ow, HBsU.out, HRU.out.far⟩⟩
      · have hk1 : ((k : Int) == (n5 : Int)) = false := by rw [beq_eq_false_iff_ne]; omega
        have HNo : Kp (∀ fs s, ¬ Fit xs R fs s) := ⟨fun fs s hf => hk (by have := (HN.out.done hl.symm hf).2.1; omega)⟩
        clear hk
        go_wp2_with fail
        go_ret
        exact ⟨HFU.out, .inr ⟨HNo.out, rfl⟩⟩
end Go.Proofs.Ytinffeffffligaa.Bas
