import Derived.Test.YtinffeffffligaaBlZr
import Derived.Test.YtinffeffffligaaBlZt
set_option linter.unusedVariables false
set_option linter.unusedSimpArgs false
namespace Go.Proofs.Ytinffeffffligaa.Bas
open Go.RowKit Go.Maps

/-! ### The law BlockSeeks -/
/-- What the reference's Build tells of whatever came in. -/
def BdP (es0 : Option (List En)) (st : Int) (w : World) (e : Ending) (w' : World) : Prop :=
  Below w.heap.size w w' ∧ ((∃ r : Int, r ≠ 0 ∧ e = .returned (.tuple #[.slice none 0 0, .int .i64 r])) ∨
    (∃ es, es0 = some es ∧ chkB es = 0 ∧ ∃ A n c, e = .returned (.tuple #[.slice A n c, .int .i64 0]) ∧ Nu .u8 5 w.heap.size w' (.slice A n c) (buildB (clampN st) es)))
theorem bd_any {w : World} {A : Option Addr} {n c : Nat} (hm : (∃ es, Es w A n c es ∧ SeqE es) ∨ (∀ W, Below w.heap.size w W → ∀ st, Calls Try.prog 12 #[.slice A n c, .int .i64 st] W (BErrP W))) (st : Int) :
    ∃ es0 : Option (List En), (∀ es, es0 = some es → Es w A n c es ∧ SeqE es) ∧ ∀ W, Below w.heap.size w W → Calls Try.prog 12 #[.slice A n c, .int .i64 st] W (BdP es0 st W) := by
  rcases hm with ⟨es, h1, h2⟩ | hm
  · refine ⟨some es, fun es' e => by cases e; exact ⟨h1, h2⟩, fun W hb => (ref_build (h1.below hb) h2 st).mono fun e w' hq => ?_⟩
    obtain ⟨hb2, (⟨hk, he⟩ | ⟨hk, A', n', c', he, hnu⟩)⟩ := hq
    · exact ⟨hb2, .inl ⟨_, hk, he⟩⟩
    · exact ⟨hb2, .inr ⟨es, rfl, hk, A', n', c', he, hnu⟩⟩
  · exact ⟨none, (fun es e => by cases e), fun W hb => (hm W hb st).mono fun e w' ⟨r, hr, he, hb2⟩ => ⟨hb2, .inl ⟨r, hr, he⟩⟩⟩
set_option maxHeartbeats 8000000 in
set_option maxRecDepth 100000 in
theorem block_seeks {w : World} {A : Option Addr} {n c : Nat} {ls : List (Nat × Nat)} (hw : EsW w A n c ls) (hm : (∃ es, Es w A n c es ∧ SeqE es) ∨ (∀ W, Below w.heap.size w W → ∀ st, Calls Try.prog 12 #[.slice A n c, .int .i64 st] W (BErrP W)))
    (st : Int) {Ak : Option Addr} {nk ck : Nat} {sq kd : Int} (hk : nk ≤ 140737488355328 → ∃ xs, Rd w .u8 Ak nk ck xs ∧ Byt xs) :
    Calls Try.prog 7 #[.slice A n c, .int .i64 st, .agg #[.slice Ak nk ck, .int .u64 sq, .int .i64 kd]] w fun e w' => e = .returned (.bool true) ∧ Below w.heap.size w w' := by
  obtain ⟨es0, hes0, hbd⟩ := bd_any hm st
  have HW := Kp.mk hw
  have HK := Kp.mk hk
  have HES := Kp.mk hes0
  have HBD := Kp.mk hbd
  have HBig := Kp.mk (fun (W : World) (hb : Below w.heap.size w W) => big_weak (hw.below hb))
  obtain ⟨bg, hbg⟩ : ∃ bg, bg = bigL ls := ⟨_, rfl⟩
  rw [← hbg] at HBig
  have HBG := Kp.mk hbg
  have hba := alloc_below w (.cells #[.slice Ak nk ck, .int .u64 sq, .int .i64 kd] 46)
  have hga := heap_alloc_new w (.cells #[.slice Ak nk ck, .int .u64 sq, .int .i64 kd] 46)
  obtain ⟨W1, hW1⟩ : ∃ W, W = w.alloc (.cells #[.slice Ak nk ck, .int .u64 sq, .int .i64 kd] 46) := ⟨_, rfl⟩
  obtain ⟨gk, hgk⟩ : ∃ q, q = w.heap.size := ⟨_, rfl⟩
  rw [← hW1] at hba hga
  rw [← hgk] at hga
  have HB0 := Kp.mk hba
  have HG0 := Kp.mk hga
  have HW1 := Kp.mk hW1
  have Hgk := Kp.mk hgk
  clear hw hm hk hes0 hbd hbg hba hga hW1 hgk
  go_enter Try.func7, Try.ntmps7
  go_upto_region 1 with fail
  rewrite [← HW1.out, ← Hgk.out]
  go_wp2_with fail
  refine (alive_any W1).mono ?_
  rintro e w1 ⟨rfl, hb1⟩
  have HB1 := Kp.mk (HB0.out.trans (hb1.mono HB0.out.size))
  have HG1 := Kp.mk ((hb1.block _ (lt_of_block HG0.out)).trans HG0.out)
  clear hb1
  go_wp2_with fail
  refine (HBig.out _ HB1.out).mono ?_
  rintro e w2 ⟨rfl, hw2⟩
  subst hw2
  go_wp2_with fail
  refine (HBD.out _ HB1.out).mono ?_
  rintro e w3 ⟨hb3, hcs⟩
  have HB3 := Kp.mk (HB1.out.trans (hb3.mono HB1.out.size))
  have HG3 := Kp.mk ((hb3.block _ (lt_of_block HG1.out)).trans HG1.out)
  have k0 := cells_top HG3.out 0 (.slice Ak nk ck) rfl
  have k1 := cells_top HG3.out 1 (.int .u64 sq) rfl
  have k2 := cells_top HG3.out 2 (.int .i64 kd) rfl
  clear HBig HBD
  rcases hcs with ⟨r, hr, rfl⟩ | ⟨es, he0, hchk, A3, n3, c3, rfl, hnu⟩
  · have h1 : (r == 0) = false := by simpa using hr
    have h2 : (r != 0) = true := by simpa using hr
    clear hr hb3
    cases bg
    · go_wp2_with fail
      go_ret
      exact ⟨rfl, HB3.out⟩
    · go_wp2_with fail
      go_ret
      exact ⟨rfl, HB3.out⟩
  · obtain ⟨hes, hseq⟩ := HES.out es he0
    cases bg
    · by_cases hnk : 300 < nk
      · clear hb3 hnu
        go_wp2_with fail
        go_ret
        exact ⟨rfl, HB3.out⟩
      · have hl60 : es.length ≤ 60 := by
          have h1 := big_short HBG.out.symm
          have h2 := HW.out.len
          have h3 := hes.len
          omega
        have hI := built_is hes hseq hchk st
        have hsm := build_small hI.good (clampN st) hl60
        obtain ⟨xk, hxk, hxb⟩ := HK.out (by omega)
        obtain ⟨hn3, hr3, _⟩ := hnu.rd (by omega)
        have hky : KyV w3 (.agg #[.slice Ak nk ck, .int .u64 sq, .int .i64 kd]) ⟨xk, sq, kd⟩ := ⟨_, _, _, rfl, hxk.below HB3.out, hxb⟩
        have HSk := Kp.mk (block_seek hr3 hnu.cap (buildB_byt hI.good (clampN st)) (by omega) hky)
        have HI := Kp.mk hI
        have HE := Kp.mk hes
        have HXK := Kp.mk hxk
        have HXB := Kp.mk hxb
        clear hes hseq hI hsm hxk hxb hn3 hr3 hky hnu hb3 he0 hchk
        go_wp2_with fail
        refine HSk.out.mono ?_
        rintro e w4 ⟨hb4, (⟨cc, hbad, rfl⟩ | ⟨es', s', hI', hcs⟩)⟩
        · exact (hbad.not HI.out).elim
        · obtain rfl := HI.out.one hI'
          have HB4 := Kp.mk (HB3.out.trans (hb4.mono HB3.out.size))
          have HG4 := Kp.mk ((hb4.block _ (lt_of_block HG3.out)).trans HG3.out)
          clear hb4 k0 k1 k2 HSk
          rcases hcs with hcs | hcs
          · obtain ⟨i0, vs, hfi, hec, rfl⟩ := hcs
            have hec' := hec
            obtain ⟨B0, m0, e0, B1, m1, e1, rfl, _⟩ := hec'
            obtain ⟨f0, hf0⟩ : ∃ f0, f0 = es.getD i0 enD := ⟨_, rfl⟩
            rw [← hf0] at hec ⊢
            have hb5 := alloc_below w4 (.cells #[.slice B0 m0 e0, .int .u64 f0.k.seq, .int .i64 f0.k.kind, .slice B1 m1 e1] 48)
            have hg5 := heap_alloc_new w4 (.cells #[.slice B0 m0 e0, .int .u64 f0.k.seq, .int .i64 f0.k.kind, .slice B1 m1 e1] 48)
            have HB5 := Kp.mk (HB4.out.trans (hb5.mono HB4.out.size))
            have HG5 := Kp.mk ((hb5.block _ (lt_of_block HG4.out)).trans HG4.out)
            obtain ⟨gx, hgx⟩ : ∃ q, q = w4.heap.size := ⟨_, rfl⟩
            rw [← hgx] at hg5
            have HX5 := Kp.mk hg5
            have HEC5 := Kp.mk (hec.below hb5)
            have HFI := Kp.mk hfi
            have HF0 := Kp.mk hf0
            have HLE := Kp.mk HE.out.len
            obtain ⟨W5, hW5⟩ : ∃ W, W = w4.alloc (.cells #[.slice B0 m0 e0, .int .u64 f0.k.seq, .int .i64 f0.k.kind, .slice B1 m1 e1] 48) := ⟨_, rfl⟩
            rw [← hW5] at HB5 HG5 HX5 HEC5
            have HW5 := Kp.mk hW5
            have HGX := Kp.mk hgx
            have hi0 := hfi.lt
            clear hfi hf0 hec hb5 hg5 hW5 hgx hI'
            go_wp2_with (go_at_call 13; refine (num_any _ _).mono ?_; rintro e w5 ⟨rfl, hw5⟩; subst hw5)
            rewrite [← HW5.out, ← HGX.out]
            go_loopw [14] (fun i wr => ∃ j : Nat, i = .int .i64 (j : Nat) ∧ j ≤ i0 ∧ Kp (Below w.heap.size w wr) ∧ Kp (wr.heap[gk]? = some (.cells #[.slice Ak nk ck, .int .u64 sq, .int .i64 kd] 46 (0, 0))) ∧ Kp (wr.heap[gx]? = some (.cells #[.slice B0 m0 e0, .int .u64 f0.k.seq, .int .i64 f0.k.kind, .slice B1 m1 e1] 48 (0, 0))) ∧ Kp (EnC wr #[.slice B0 m0 e0, .int .u64 f0.k.seq, .int .i64 f0.k.kind, .slice B1 m1 e1] f0)) (fun i _ => i0 + 1 - (intOf i).toNat)
            case atStart => exact ⟨0, rfl, Nat.zero_le _, HB5, HG5, HX5, HEC5⟩
            case round =>
              obtain ⟨j, rfl, hj, HB, HG, HX, HEC⟩ := hrel
              have hltn : j < n := by have := HLE.out; omega
              have hlt' : ¬ n ≤ j := by omega
              obtain ⟨b, off, hAo, hcq⟩ := (HE.out.below HB.out).cell (by omega)
              subst hAo
              obtain ⟨vq, hvq, hcv⟩ := hcq j hltn
              have HVQ := Kp.mk hvq
              obtain ⟨A0, l0, d0, A0', l0', d0', rfl, a1, a2, a3, a4⟩ := hvq
              obtain ⟨en, hen⟩ : ∃ en, en = es.getD j enD := ⟨_, rfl⟩
              rw [← hen] at hcv a1 a2 a3 a4 HVQ
              have x0 := hcv 0 _ rfl
              rw [Nat.add_zero] at x0
              have x1 := hcv 1 _ rfl
              have x2 := hcv 2 _ rfl
              have x3 := hcv 3 _ rfl
              obtain ⟨dd, hdd⟩ : ∃ dd, dd = keyCmp en.k ⟨xk, sq, kd⟩ := ⟨_, rfl⟩
              have hcmp := fun (W : World) (hb : Below wr.heap.size wr W) => ref_key_compare (⟨_, _, _, rfl, a1.below hb, a2⟩ : KyV W (.agg #[.slice A0 l0 d0, .int .u64 en.k.seq, .int .i64 en.k.kind]) en.k) (⟨_, _, _, rfl, (HXK.out.below HB.out).below hb, HXB.out⟩ : KyV W (.agg #[.slice Ak nk ck, .int .u64 sq, .int .i64 kd]) ⟨xk, sq, kd⟩)
              rw [← hdd] at hcmp
              have HC := Kp.mk hcmp
              have HEN := Kp.mk hen
              have HDD := Kp.mk hdd
              have X0 := Kp.mk x0
              have X1 := Kp.mk x1
              have X2 := Kp.mk x2
              have X3 := Kp.mk x3
              have x0b := blw_cell x0
              have x1b := blw_cell x1
              have x2b := blw_cell x2
              have k0b := blw_cell (cells_top HG.out 0 (.slice Ak nk ck) rfl)
              have k1b := blw_cell (cells_top HG.out 1 (.int .u64 sq) rfl)
              have k2b := blw_cell (cells_top HG.out 2 (.int .i64 kd) rfl)
              clear hcmp hdd hen a1 a2 a3 a4 hcv hcq x0 x1 x2 x3
              by_cases hji : j < i0
              · have hneg : dd < 0 := by rw [HDD.out, HEN.out]; exact HFI.out.ahead j hji
                have hneg' : ¬ 0 ≤ dd := by omega
                go_wp2_with fail
                refine wp_region_below (by kernel_rfl) (by kernel_rfl) ?_
                repeat (first | go_big_quiet_step ((go_at_call 19; exact calls_blw (HC.out _ (Blw.h _)))) | quiet_step ((go_at_call 19; exact calls_blw (HC.out _ (Blw.h _)))))
                refine wpQuiet_nil ?_
                rintro _ ⟨pz, rfl⟩
                have HB6 := Kp.mk (HB.out.trans (pz.h.mono HB.out.size))
                have HG6 := Kp.mk ((pz.h.block _ (lt_of_block HG.out)).trans HG.out)
                have HX6 := Kp.mk ((pz.h.block _ (lt_of_block HX.out)).trans HX.out)
                have HEC6 := Kp.mk (HEC.out.below pz.h)
                go_wp2_with fail
                go_roundw
                case rel => exact ⟨j + 1, by go_num, by omega, HB6, HG6, HX6, HEC6⟩
                case measure => simp [intOf]; omega
              · obtain rfl : i0 = j := by omega
                have hneg' : 0 ≤ dd := by rw [HDD.out, HEN.out]; exact HFI.out.here
                have HEF : Kp (en = f0) := ⟨HEN.out.trans HF0.out.symm⟩
                go_wp2_with fail
                refine wp_region_below (by kernel_rfl) (by kernel_rfl) ?_
                repeat (first | go_big_quiet_step ((go_at_call 19; exact calls_blw (HC.out _ (Blw.h _)))) | quiet_step ((go_at_call 19; exact calls_blw (HC.out _ (Blw.h _)))))
                refine wpQuiet_nil ?_
                rintro _ ⟨pz, rfl⟩
                have HB6 := Kp.mk (HB.out.trans (pz.h.mono HB.out.size))
                have hgx6 := (pz.h.block _ (lt_of_block HX.out)).trans HX.out
                have HVQ6 := HVQ.out.below pz.h
                rw [HEF.out] at HVQ6
                have hsame := fun (W : World) (hb : Below pz.v.heap.size pz.v W) => same_entry ((HEC.out.below pz.h).below hb) (HVQ6.below hb)
                have HSm := Kp.mk hsame
                have y0 := blw_cell (cell_kept pz.h X0.out)
                have y1 := blw_cell (cell_kept pz.h X1.out)
                have y2 := blw_cell (cell_kept pz.h X2.out)
                have y3 := blw_cell (cell_kept pz.h X3.out)
                rw [HEF.out] at y1 y2
                have g0 := blw_cell (cells_top hgx6 0 (.slice B0 m0 e0) rfl)
                have g1 := blw_cell (cells_top hgx6 1 (.int .u64 f0.k.seq) rfl)
                have g2 := blw_cell (cells_top hgx6 2 (.int .i64 f0.k.kind) rfl)
                have g3 := blw_cell (cells_top hgx6 3 (.slice B1 m1 e1) rfl)
                clear hsame hgx6 HVQ6 x0b x1b x2b k0b k1b k2b
                go_wp2_with fail
                refine wp_region_below (by kernel_rfl) (by kernel_rfl) ?_
                repeat (first | go_big_quiet_step ((go_at_call 20; exact calls_blw (HSm.out _ (Blw.h _)))) | quiet_step ((go_at_call 20; exact calls_blw (HSm.out _ (Blw.h _)))))
                refine wpQuiet_nil ?_
                rintro _ ⟨pw, rfl⟩
                go_wp2_with fail
                go_ret
                exact ⟨rfl, HB6.out.trans (pw.h.mono HB6.out.size)⟩

          · obtain ⟨hall, rfl⟩ := hcs
            have HALL := Kp.mk hall
            have hb5 := alloc_below w4 (.cells #[.slice none 0 0, .int .u64 0, .int .i64 0, .slice none 0 0] 48)
            have HB5 := Kp.mk (HB4.out.trans (hb5.mono HB4.out.size))
            have HG5 := Kp.mk ((hb5.block _ (lt_of_block HG4.out)).trans HG4.out)
            have HLE := Kp.mk HE.out.len
            have hnm := HE.out.max
            unfold entZ
            clear hall hb5 hI'
            go_wp2_with (go_at_call 13; refine (num_any _ _).mono ?_; rintro e w5 ⟨rfl, hw5⟩; subst hw5)
            go_loopw [14] (fun i wr => ∃ j : Nat, i = .int .i64 (j : Nat) ∧ j ≤ n ∧ Kp (Below w.heap.size w wr) ∧ Kp (wr.heap[gk]? = some (.cells #[.slice Ak nk ck, .int .u64 sq, .int .i64 kd] 46 (0, 0)))) (fun i _ => n - (intOf i).toNat)
            case atStart => exact ⟨0, rfl, Nat.zero_le _, HB5, HG5⟩
            case round =>
              obtain ⟨j, rfl, hj, HB, HG⟩ := hrel
              by_cases hlt : j < n
              · have hjl : j < es.length := by have := HLE.out; omega
                have hltn : j < n := by have := HLE.out; omega
                have hlt' : ¬ n ≤ j := by omega
                obtain ⟨b, off, hAo, hcq⟩ := (HE.out.below HB.out).cell (by omega)
                subst hAo
                obtain ⟨vq, hvq, hcv⟩ := hcq j hltn
                have HVQ := Kp.mk hvq
                obtain ⟨A0, l0, d0, A0', l0', d0', rfl, a1, a2, a3, a4⟩ := hvq
                obtain ⟨en, hen⟩ : ∃ en, en = es.getD j enD := ⟨_, rfl⟩
                rw [← hen] at hcv a1 a2 a3 a4 HVQ
                have x0 := hcv 0 _ rfl
                rw [Nat.add_zero] at x0
                have x1 := hcv 1 _ rfl
                have x2 := hcv 2 _ rfl
                have x3 := hcv 3 _ rfl
                obtain ⟨dd, hdd⟩ : ∃ dd, dd = keyCmp en.k ⟨xk, sq, kd⟩ := ⟨_, rfl⟩
                have hcmp := fun (W : World) (hb : Below wr.heap.size wr W) => ref_key_compare (⟨_, _, _, rfl, a1.below hb, a2⟩ : KyV W (.agg #[.slice A0 l0 d0, .int .u64 en.k.seq, .int .i64 en.k.kind]) en.k) (⟨_, _, _, rfl, (HXK.out.below HB.out).below hb, HXB.out⟩ : KyV W (.agg #[.slice Ak nk ck, .int .u64 sq, .int .i64 kd]) ⟨xk, sq, kd⟩)
                rw [← hdd] at hcmp
                have HC := Kp.mk hcmp
                have HEN := Kp.mk hen
                have HDD := Kp.mk hdd
                have X0 := Kp.mk x0
                have X1 := Kp.mk x1
                have X2 := Kp.mk x2
                have X3 := Kp.mk x3
                have x0b := blw_cell x0
                have x1b := blw_cell x1
                have x2b := blw_cell x2
                have k0b := blw_cell (cells_top HG.out 0 (.slice Ak nk ck) rfl)
                have k1b := blw_cell (cells_top HG.out 1 (.int .u64 sq) rfl)
                have k2b := blw_cell (cells_top HG.out 2 (.int .i64 kd) rfl)
                clear hcmp hdd hen a1 a2 a3 a4 hcv hcq x0 x1 x2 x3
                have hneg : dd < 0 := by rw [HDD.out, HEN.out]; exact HALL.out j hjl
                have hneg' : ¬ 0 ≤ dd := by omega
                go_wp2_with fail
                refine wp_region_below (by kernel_rfl) (by kernel_rfl) ?_
                repeat (first | go_big_quiet_step ((go_at_call 19; exact calls_blw (HC.out _ (Blw.h _)))) | quiet_step ((go_at_call 19; exact calls_blw (HC.out _ (Blw.h _)))))
                refine wpQuiet_nil ?_
                rintro _ ⟨pz, rfl⟩
                have HB6 := Kp.mk (HB.out.trans (pz.h.mono HB.out.size))
                have HG6 := Kp.mk ((pz.h.block _ (lt_of_block HG.out)).trans HG.out)
                go_wp2_with fail
                go_roundw
                case rel => exact ⟨j + 1, by go_num, by omega, HB6, HG6⟩
                case measure => simp [intOf]; omega
              · obtain rfl : n = j := by omega
                go_wp2_with fail
                go_ret
                exact ⟨rfl, HB.out⟩
    · clear hb3 hnu
      go_wp2_with fail
      go_ret
      exact ⟨rfl, HB3.out⟩
end Go.Proofs.Ytinffeffffligaa.Bas
