import Derived.Test.YtpgkpigpehehmaaMrgK
set_option linter.unusedVariables false
set_option linter.unusedSimpArgs false
namespace Go.Proofs.Ytpgkpigpehehmaa.Bas
open Go.RowKit Go.Maps Go.Sort Go.Shelf

theorem own_base4 {w : World} {B e n size : Nat} {v : Value} {xs : List Value} (h : w.ownsRow B e size v n xs) : ∀ k, v.ownBlock = some k → B ≤ k := by
  intro k hk
  rcases h.2 with ⟨e1, _⟩ | ⟨g, cap, cur, e1, hB, _⟩
  · rw [e1] at hk; cases hk
  · rw [e1] at hk
    cases hk
    exact hB
set_option maxHeartbeats 8000000 in
set_option maxRecDepth 100000 in
theorem all_any {w : World} {A : Option Addr} {n c : Nat} {ess : List (List En)} {R : List En → List En → Prop} (h : Ls w A n c ess) (hT : ess.flatten.length ≤ 1000000)
    (hs : SortsAt w R ess.flatten.length) (hR : R [] []) :
    Calls Try.prog 8 #[.slice A n c] w (AllQ w ess R) := by
  have hm := h.max
  have hl := h.len
  have H := Kp.mk h
  have HS := Kp.mk hs
  have HT := Kp.mk hT
  have HR0 := Kp.mk hR
  clear h hs hT hR
  go_enter Try.func8, Try.ntmps8
  go_wp2_with fail
  go_loopw [4, 12] (fun v i wr => ∃ (k : Nat) (ps : List Pr), k ≤ n ∧ i = .int .i64 k ∧ Kp (wr.ownsRow w.heap.size 40 4 v ps.length (flat4 ps)) ∧ Kp (∀ p ∈ ps, EnC w p.1 p.2) ∧ Kp (ps.map (·.2) = (ess.take k).flatten) ∧ Kp (∀ j, j < k → risesFrom (ess.getD j []) = true) ∧ Kp (Below w.heap.size w wr)) (fun _ i _ => n - (intOf i).toNat)
  case atStart => exact ⟨0, [], Nat.zero_le _, rfl, ⟨⟨rfl, .inl ⟨rfl, rfl⟩⟩⟩, ⟨fun p hp => by cases hp⟩, ⟨by simp⟩, ⟨fun j hj => by omega⟩, ⟨Below.refl _ _⟩⟩
  case round =>
    obtain ⟨k, ps, hk, rfl, HO, HE, HP, HRi, HB⟩ := hrel
    by_cases hlt : k < n
    · obtain ⟨ad, rfl, hc⟩ := H.out.cell (by omega)
      obtain ⟨A', c', x0', hes⟩ := hc k hlt
      have x0 := cell_kept HB.out x0'
      clear x0' hc
      obtain ⟨es, hes0⟩ : ∃ es, es = ess.getD k [] := ⟨_, rfl⟩
      rw [← hes0] at x0 hes
      have HEs := Kp.mk hes
      have Hes0 := Kp.mk hes0
      clear hes hes0
      obtain ⟨m, hm'⟩ : ∃ m, m = es.length := ⟨_, rfl⟩
      rw [← hm'] at x0 HEs
      have Hm' := Kp.mk hm'
      clear hm'
      obtain ⟨b, hb⟩ : ∃ b, risesFrom es = b := ⟨_, rfl⟩
      have hris := rising_any (HEs.out.below HB.out)
      rw [hb] at hris
      have Hris := Kp.mk hris
      have Hb := Kp.mk hb
      clear hris hb
      cases b with
      | false =>
        have HF := Kp.mk (rise_false (ess := ess) (k := k) (by omega) (by rw [← Hes0.out]; exact Hb.out))
        go_wp2_with (go_at_call 17; refine Hris.out.mono ?_; rintro e w1 ⟨rfl, hb1⟩)
        go_ret2
        exact ⟨HB.out.trans (hb1.mono HB.out.size), .inl ⟨HF.out, rfl⟩⟩
      | true =>
        have HRi' : Kp (∀ j, j < k + 1 → risesFrom (ess.getD j []) = true) := ⟨fun j hj => by
          by_cases hjk : j = k
          · subst hjk; rw [← Hes0.out]; exact Hb.out
          · exact HRi.out j (by omega)⟩
        clear HRi
        have HP' : Kp (∀ qs : List Pr, qs.map (·.2) = es → (ps ++ qs).map (·.2) = (ess.take (k + 1)).flatten) := ⟨fun qs hq => by rw [flat_step (by omega), List.map_append, HP.out, hq, Hes0.out]⟩
        have Hlen : Kp (ps.length + m ≤ 2000000) := ⟨by
          have h1 := congrArg List.length HP.out
          rw [List.length_map] at h1
          have h2 : (ess.take k).flatten.length ≤ ess.flatten.length := by
            have := congrArg (fun l : List (List En) => l.flatten.length) (List.take_append_drop k ess)
            simp only [List.flatten_append, List.length_append] at this
            omega
          have := HEs.out.max
          have := HT.out
          omega⟩
        go_wp2_with (first
          | (go_at_call 17; refine Hris.out.mono ?_; rintro e w1 ⟨rfl, hb1⟩; have HO1 := Kp.mk (row_heap4 HO.out (fun k hk => hb1.block k (own_blk_lt HO.out k hk))); have HB1 := Kp.mk (HB.out.trans (hb1.mono HB.out.size)); clear hb1)
          | (at_builtin; refine wpList_append_es (w0 := w) rfl (.tmp 19) (.tmp 20) w.heap.size rfl u4 ps.length m c' (flat4 ps) es A' rfl rfl HO1.out HEs.out HB1.out Hlen.out HB1.out.size ?_; intro v' w2 qs q1 q2 hown hg hat; have HO2 := Kp.mk hown; have HG : Kp (w1.grownBy w2 u4.ownBlock) := ⟨hg⟩; have Q1 := Kp.mk q1; have Q2 := Kp.mk q2; clear hown hg hat q1 q2))
        have hq : Kp (qs.length = m) := ⟨by have := congrArg List.length Q1.out; rw [List.length_map, ← Hm'.out] at this; exact this⟩
        go_roundw
        case rel => exact ⟨k + 1, ps ++ qs, by omega, by go_num, ⟨by rw [flat4_append, List.length_append, hq.out]; exact HO2.out⟩, ⟨fun p hp => (List.mem_append.1 hp).elim (HE.out p) (Q2.out p)⟩, ⟨HP'.out qs Q1.out⟩, HRi', ⟨HB1.out.grown HG.out HB1.out.size (own_base4 HO1.out)⟩⟩
        case measure => simp [intOf]; omega
    · obtain rfl : n = k := by omega
      have HAll := Kp.mk (rise_true (ess := ess) (fun j hj => HRi.out j (by omega)))
      have HP' : Kp (ps.map (·.2) = ess.flatten) := ⟨by rw [HP.out, List.take_of_length_le (by omega)]⟩
      obtain ⟨N, hN⟩ : ∃ N, N = ess.flatten.length := ⟨_, rfl⟩
      have HN := Kp.mk hN
      have hNm : N ≤ 1000000 := by have := HT.out; omega
      have HNp : Kp (ps.length = N) := ⟨by have := congrArg List.length HP'.out; rw [List.length_map] at this; omega⟩
      have hsr := sort_row (HN.out ▸ HS.out) HR0.out HO.out HE.out HNp.out hNm HB.out
      rw [HP'.out] at hsr
      have Hsr := Kp.mk hsr
      clear hsr hN HP HRi HS HT hlt HE
      go_wp2_with (go_at_call 18; refine Hsr.out.mono ?_; rintro e w1 ⟨rfl, A1, c1, L, rfl, hr, hLn, hb1, hes⟩; have HR := Kp.mk hr; have HLn := Kp.mk hLn; have HB1 := Kp.mk hb1; have HEs := Kp.mk hes; clear hr hLn hb1 hes)
      clear Hsr HO HB
      go_loopw [7, 27] (fun v i wr => ∃ (k : Nat) (qs : List Pr), k ≤ N ∧ i = .int .i64 k ∧ Kp (Ow w1.heap.size wr v qs) ∧ Kp (qs.map (·.2) = dd L k) ∧ Kp (Below w1.heap.size w1 wr)) (fun _ i _ => N - (intOf i).toNat)
      case atStart => exact ⟨0, [], Nat.zero_le _, rfl, ⟨Ow.nil _ _⟩, ⟨rfl⟩, ⟨Below.refl _ _⟩⟩
      case round =>
        obtain ⟨k, qs, hk, rfl, HO, HQ, HB⟩ := hrel
        by_cases hlt : k < N
        · obtain ⟨g, off, rfl, hc⟩ := (HEs.out.below HB.out).cell (by omega)
          obtain ⟨vs, hv, hv'⟩ := hc k hlt
          obtain ⟨en, hen⟩ : ∃ en, en = L.getD k enD := ⟨_, rfl⟩
          rw [← hen] at hv
          have Hen := Kp.mk hen
          have Hv := Kp.mk hv
          obtain ⟨B1, n1, d1, B1', n1', d1', rfl, b1, b2, b3, b4⟩ := hv
          have y0 : wr.cell? ⟨g, off + k * 4, none⟩ = some (.slice B1 n1 d1) := hv' 0 _ rfl
          have y1 : wr.cell? ⟨g, off + k * 4 + 1, none⟩ = some (.int .u64 en.k.seq) := hv' 1 _ rfl
          have y2 : wr.cell? ⟨g, off + k * 4 + 2, none⟩ = some (.int .i64 en.k.kind) := hv' 2 _ rfl
          have y3 : wr.cell? ⟨g, off + k * 4 + 3, none⟩ = some (.slice B1' n1' d1') := hv' 3 _ rfl
          clear hv' b1 b2 b3 b4 hen
          by_cases hk0 : k = 0
          · subst hk0
            rw [Nat.zero_mul, Nat.add_zero] at y0 y1 y2 y3
            clear hc
            have HD : Kp (dd L (0 + 1) = dd L 0 ++ [en]) := ⟨by rw [Hen.out]; rfl⟩
            go_wp2_with fail
            obtain ⟨W0, hW0⟩ : ∃ W0, W0 = wr.alloc (.cells #[.slice B1 n1 d1, .int .u64 en.k.seq, .int .i64 en.k.kind, .slice B1' n1' d1'] 40) := ⟨_, rfl⟩
            rw [← hW0]
            have hb00 : Below wr.heap.size wr W0 := by rw [hW0]; exact alloc_below wr _
            have hz : W0.heap[wr.heap.size]? = some (.cells #[.slice B1 n1 d1, .int .u64 en.k.seq, .int .i64 en.k.kind, .slice B1' n1' d1'] 40) := by rw [hW0]; exact heap_alloc_new wr _
            obtain ⟨z, hz'⟩ : ∃ z, z = wr.heap.size := ⟨_, rfl⟩
            have Hz' := Kp.mk hz'
            have Hzb : Kp (∀ k, u7.ownBlock = some k → k ≠ z) := ⟨fun k hk e => by have := own_blk_lt HO.out.own k hk; omega⟩
            have HO0 := Kp.mk (HO.out.below hb00)
            have HB0 := Kp.mk (HB.out.trans (hb00.mono HB.out.size))
            have Hv0 := Kp.mk (Hv.out.below hb00)
            rw [← hz'] at hz ⊢
            clear y0 y1 y2 y3 hW0 hb00 HO HB Hv hz'
            have y0 := cells_top hz 0 (.slice B1 n1 d1) rfl
            have y1 := cells_top hz 1 (.int .u64 en.k.seq) rfl
            have y2 := cells_top hz 2 (.int .i64 en.k.kind) rfl
            have y3 := cells_top hz 3 (.slice B1' n1' d1') rfl
            have Hz := Kp.mk hz
            clear hz
            refine wp_region_below (by kernel_rfl) (by kernel_rfl) ?_
            repeat (first | go_big_quiet_step (fail) | quiet_step (fail))
            refine wpQuiet_nil ?_
            rintro _ ⟨pq, rfl⟩
            have HO1 := Kp.mk (HO0.out.below pq.h)
            have HB1' := Kp.mk (HB0.out.trans (pq.h.mono HB0.out.size))
            have Hv1 := Kp.mk (Hv0.out.below pq.h)
            have Hz1 := Kp.mk ((pq.h.block _ (lt_of_block Hz.out)).trans Hz.out)
            have y0 := cells_top Hz1.out 0 (.slice B1 n1 d1) rfl
            have y1 := cells_top Hz1.out 1 (.int .u64 en.k.seq) rfl
            have y2 := cells_top Hz1.out 2 (.int .i64 en.k.kind) rfl
            have y3 := cells_top Hz1.out 3 (.slice B1' n1' d1') rfl
            go_wp2_with (first
              | ((go_at_call 21; refine (own_any Hv1.out).mono ?_; rintro e w2 ⟨vs', rfl, he, hb2, hnew⟩)
                 have He := Kp.mk he
                 have Hnw := Kp.mk hnew
                 obtain ⟨B3, n3, d3, B3', n3', d3', rfl, f1, f2, f3, f4⟩ := he
                 have HO2 := Kp.mk ((HO1.out.below hb2).below (alloc_below w2 (.cells #[.slice B3 n3 d3, .int .u64 en.k.seq, .int .i64 en.k.kind, .slice B3' n3' d3'] 40)))
                 have HB2 := Kp.mk (HB1'.out.trans ((hb2.trans ((alloc_below w2 (.cells #[.slice B3 n3 d3, .int .u64 en.k.seq, .int .i64 en.k.kind, .slice B3' n3' d3'] 40)).mono hb2.size)).mono HB1'.out.size))
                 have HE2 := Kp.mk (He.out.below (alloc_below w2 (.cells #[.slice B3 n3 d3, .int .u64 en.k.seq, .int .i64 en.k.kind, .slice B3' n3' d3'] 40)))
                 have HF2 : Kp (∀ A n c, Value.slice (some A) n c ∈ (#[.slice B3 n3 d3, .int .u64 en.k.seq, .int .i64 en.k.kind, .slice B3' n3' d3'] : Array Value).toList → 0 < n → some A.block ≠ u7.ownBlock) := ⟨fun A n c hm _ he => by
                   have h1 := Hnw.out A n c hm
                   have h2 := own_blk_lt HO1.out.own A.block he.symm
                   omega⟩
                 have HC2 : Kp (∀ (j : Nat) (u : Value), (#[.slice B3 n3 d3, .int .u64 en.k.seq, .int .i64 en.k.kind, .slice B3' n3' d3'] : Array Value)[j]? = some u → (w2.alloc (.cells #[.slice B3 n3 d3, .int .u64 en.k.seq, .int .i64 en.k.kind, .slice B3' n3' d3'] 40)).cell? ((⟨w2.heap.size, 0, none⟩ : Addr).add j) = some u) := ⟨fun j u hu => by
                   rw [Addr.add_lit, Nat.zero_add]
                   exact cells_top (heap_alloc_new w2 _) j u hu⟩
                 have HL2 : Kp (qs.length + 1 ≤ 2000000) := ⟨by
                   have h1 := congrArg List.length HQ.out
                   rw [List.length_map] at h1
                   have h2 := dd_le L 0
                   omega⟩
                 clear f1 f2 f3 f4 hb2 hnew y0 y1 y2 y3)
              | (at_builtin; go_must (refine wpList_append_one (B := w1.heap.size) rfl (.tmp 46) (.tmp 49) rfl u7 qs _ en ⟨w2.heap.size, 0, none⟩ 1 rfl rfl HO2.out HE2.out HF2.out HC2.out HL2.out HB2.out.size ?_); intro v' w3 hown hg hat; have HO3 := Kp.mk hown; have HB3 := Kp.mk (HB2.out.grown hg HB2.out.size (own_base4 HO2.out.own)); clear hown hg hat))
            go_roundw
            case rel => exact ⟨0 + 1, _, by omega, by go_num, HO3, ⟨by rw [List.map_append, HQ.out, HD.out]; rfl⟩, HB3⟩
            case measure => simp [intOf]; omega
          · obtain ⟨q, hq⟩ : ∃ q, k = q + 1 := ⟨k - 1, by omega⟩
            have hw : IntKind.i64.wrap ((k : Int) - 1) = (q : Int) := (IntWalk.i64_in _ (by omega)).trans (by omega)
            have hqn : q < N := by omega
            have hqn' : ¬ N ≤ q := by omega
            obtain ⟨us, hu, hu'⟩ := hc q (by omega)
            obtain ⟨en0, hen0⟩ : ∃ en0, en0 = L.getD q enD := ⟨_, rfl⟩
            rw [← hen0] at hu
            have Hen0 := Kp.mk hen0
            have Hu := Kp.mk hu
            obtain ⟨B2, n2, d2, B2', n2', d2', rfl, b1, b2, b3, b4⟩ := hu
            have x0 : wr.cell? ⟨g, off + q * 4, none⟩ = some (.slice B2 n2 d2) := hu' 0 _ rfl
            have x1 : wr.cell? ⟨g, off + q * 4 + 1, none⟩ = some (.int .u64 en0.k.seq) := hu' 1 _ rfl
            have x2 : wr.cell? ⟨g, off + q * 4 + 2, none⟩ = some (.int .i64 en0.k.kind) := hu' 2 _ rfl
            have Hq := Kp.mk hq
            clear hu' b1 b2 b3 b4 hen0 hc hq
            go_wp2_with fail
            obtain ⟨W0, hW0⟩ : ∃ W0, W0 = wr.alloc (.cells #[.slice B1 n1 d1, .int .u64 en.k.seq, .int .i64 en.k.kind, .slice B1' n1' d1'] 40) := ⟨_, rfl⟩
            rw [← hW0]
            have hb00 : Below wr.heap.size wr W0 := by rw [hW0]; exact alloc_below wr _
            have hz : W0.heap[wr.heap.size]? = some (.cells #[.slice B1 n1 d1, .int .u64 en.k.seq, .int .i64 en.k.kind, .slice B1' n1' d1'] 40) := by rw [hW0]; exact heap_alloc_new wr _
            obtain ⟨z, hz'⟩ : ∃ z, z = wr.heap.size := ⟨_, rfl⟩
            have Hz' := Kp.mk hz'
            have Hzb : Kp (∀ k, u7.ownBlock = some k → k ≠ z) := ⟨fun k hk e => by have := own_blk_lt HO.out.own k hk; omega⟩
            have HO0 := Kp.mk (HO.out.below hb00)
            have HB0 := Kp.mk (HB.out.trans (hb00.mono HB.out.size))
            have Hv0 := Kp.mk (Hv.out.below hb00)
            have Hu0 := Kp.mk (Hu.out.below hb00)
            clear Hu
            rw [← hz'] at hz ⊢
            replace x0 := cell_kept hb00 x0
            replace x1 := cell_kept hb00 x1
            replace x2 := cell_kept hb00 x2
            clear y0 y1 y2 y3 hW0 hb00 HO HB Hv hz'
            have y0 := cells_top hz 0 (.slice B1 n1 d1) rfl
            have y1 := cells_top hz 1 (.int .u64 en.k.seq) rfl
            have y2 := cells_top hz 2 (.int .i64 en.k.kind) rfl
            have y3 := cells_top hz 3 (.slice B1' n1' d1') rfl
            have Hz := Kp.mk hz
            clear hz
            obtain ⟨d, hd⟩ : ∃ d, d = keyCmp en0.k en.k := ⟨_, rfl⟩
            have HC : Kp (∀ W, Below W0.heap.size W0 W → Calls Try.prog 20 #[.agg #[.slice B2 n2 d2, .int .u64 en0.k.seq, .int .i64 en0.k.kind], .agg #[.slice B1 n1 d1, .int .u64 en.k.seq, .int .i64 en.k.kind]] W (fun e w' => e = .returned (.int .i64 d) ∧ Below W.heap.size W w')) := ⟨fun W hb => by
              have hu := Hu0.out.below hb
              have hv := Hv0.out.below hb
              rw [hd]
              obtain ⟨_, _, _, _, _, _, e1, f1, f2, _⟩ := hu
              obtain ⟨_, _, _, _, _, _, e2, g1, g2, _⟩ := hv
              simp at e1 e2
              obtain ⟨⟨rfl, rfl, rfl⟩, -⟩ := e1
              obtain ⟨⟨rfl, rfl, rfl⟩, -⟩ := e2
              exact key_compare ⟨_, _, _, rfl, f1, f2⟩ ⟨_, _, _, rfl, g1, g2⟩⟩
            have Hd := Kp.mk hd
            clear hd
            by_cases hd0 : d = 0
            · subst hd0
              have HD : Kp (dd L (k + 1) = dd L k) := ⟨by
                have e1 : dd L (k + 1) = if k = 0 ∨ keyCmp (L.getD (k - 1) enD).k (L.getD k enD).k ≠ 0 then dd L k ++ [L.getD k enD] else dd L k := rfl
                have hkq : k - 1 = q := by have := Hq.out; omega
                rw [e1, hkq, ← Hen0.out, ← Hen.out, ← Hd.out, if_neg (by simp [hk0])]⟩
              have Bx0 := blw_cell x0
              have Bx1 := blw_cell x1
              have Bx2 := blw_cell x2
              have By0 := blw_cell y0
              have By1 := blw_cell y1
              have By2 := blw_cell y2
              clear x0 x1 x2 y0 y1 y2
              refine wp_region_below (by kernel_rfl) (by kernel_rfl) ?_
              repeat (first | go_big_quiet_step ((go_at_call 20; exact calls_blw (HC.out _ (Blw.h _)))) | quiet_step ((go_at_call 20; exact calls_blw (HC.out _ (Blw.h _)))))
              refine wpQuiet_nil ?_
              rintro _ ⟨pq, rfl⟩
              have HO1 := Kp.mk (HO0.out.below pq.h)
              have HB1' := Kp.mk (HB0.out.trans (pq.h.mono HB0.out.size))
              go_wp2_with fail
              go_roundw
              case rel => exact ⟨k + 1, qs, by omega, by go_num, HO1, ⟨by rw [HQ.out, HD.out]⟩, HB1'⟩
              case measure => simp [intOf]; omega
            · have hd1 : (d != 0) = true := by simpa using hd0
              have HD : Kp (dd L (k + 1) = dd L k ++ [en]) := ⟨by
                have e1 : dd L (k + 1) = if k = 0 ∨ keyCmp (L.getD (k - 1) enD).k (L.getD k enD).k ≠ 0 then dd L k ++ [L.getD k enD] else dd L k := rfl
                have hkq : k - 1 = q := by have := Hq.out; omega
                rw [e1, hkq, ← Hen0.out, ← Hen.out, ← Hd.out, if_pos (.inr hd0)]⟩
              have Hd0 := Kp.mk hd0
              clear hd0
              have Bx0 := blw_cell x0
              have Bx1 := blw_cell x1
              have Bx2 := blw_cell x2
              have By0 := blw_cell y0
              have By1 := blw_cell y1
              have By2 := blw_cell y2
              clear x0 x1 x2 y0 y1 y2
              refine wp_region_below (by kernel_rfl) (by kernel_rfl) ?_
              repeat (first | go_big_quiet_step ((go_at_call 20; exact calls_blw (HC.out _ (Blw.h _)))) | quiet_step ((go_at_call 20; exact calls_blw (HC.out _ (Blw.h _)))))
              refine wpQuiet_nil ?_
              rintro _ ⟨pq, rfl⟩
              have HO1 := Kp.mk (HO0.out.below pq.h)
              have HB1' := Kp.mk (HB0.out.trans (pq.h.mono HB0.out.size))
              have Hv1 := Kp.mk (Hv0.out.below pq.h)
              have Hz1 := Kp.mk ((pq.h.block _ (lt_of_block Hz.out)).trans Hz.out)
              have y0 := cells_top Hz1.out 0 (.slice B1 n1 d1) rfl
              have y1 := cells_top Hz1.out 1 (.int .u64 en.k.seq) rfl
              have y2 := cells_top Hz1.out 2 (.int .i64 en.k.kind) rfl
              have y3 := cells_top Hz1.out 3 (.slice B1' n1' d1') rfl
              go_wp2_with (first
                | ((go_at_call 21; refine (own_any Hv1.out).mono ?_; rintro e w2 ⟨vs', rfl, he, hb2, hnew⟩)
                   have He := Kp.mk he
                   have Hnw := Kp.mk hnew
                   obtain ⟨B3, n3, d3, B3', n3', d3', rfl, f1, f2, f3, f4⟩ := he
                   have HO2 := Kp.mk ((HO1.out.below hb2).below (alloc_below w2 (.cells #[.slice B3 n3 d3, .int .u64 en.k.seq, .int .i64 en.k.kind, .slice B3' n3' d3'] 40)))
                   have HB2 := Kp.mk (HB1'.out.trans ((hb2.trans ((alloc_below w2 (.cells #[.slice B3 n3 d3, .int .u64 en.k.seq, .int .i64 en.k.kind, .slice B3' n3' d3'] 40)).mono hb2.size)).mono HB1'.out.size))
                   have HE2 := Kp.mk (He.out.below (alloc_below w2 (.cells #[.slice B3 n3 d3, .int .u64 en.k.seq, .int .i64 en.k.kind, .slice B3' n3' d3'] 40)))
                   have HF2 : Kp (∀ A n c, Value.slice (some A) n c ∈ (#[.slice B3 n3 d3, .int .u64 en.k.seq, .int .i64 en.k.kind, .slice B3' n3' d3'] : Array Value).toList → 0 < n → some A.block ≠ u7.ownBlock) := ⟨fun A n c hm _ he => by
                     have h1 := Hnw.out A n c hm
                     have h2 := own_blk_lt HO1.out.own A.block he.symm
                     omega⟩
                   have HC2 : Kp (∀ (j : Nat) (u : Value), (#[.slice B3 n3 d3, .int .u64 en.k.seq, .int .i64 en.k.kind, .slice B3' n3' d3'] : Array Value)[j]? = some u → (w2.alloc (.cells #[.slice B3 n3 d3, .int .u64 en.k.seq, .int .i64 en.k.kind, .slice B3' n3' d3'] 40)).cell? ((⟨w2.heap.size, 0, none⟩ : Addr).add j) = some u) := ⟨fun j u hu => by
                     rw [Addr.add_lit, Nat.zero_add]
                     exact cells_top (heap_alloc_new w2 _) j u hu⟩
                   have HL2 : Kp (qs.length + 1 ≤ 2000000) := ⟨by
                     have h1 := congrArg List.length HQ.out
                     rw [List.length_map] at h1
                     have h2 := dd_le L k
                     omega⟩
                   clear f1 f2 f3 f4 hb2 hnew y0 y1 y2 y3)
                | (at_builtin; go_must (refine wpList_append_one (B := w1.heap.size) rfl (.tmp 46) (.tmp 49) rfl u7 qs _ en ⟨w2.heap.size, 0, none⟩ 1 rfl rfl HO2.out HE2.out HF2.out HC2.out HL2.out HB2.out.size ?_); intro v' w3 hown hg hat; have HO3 := Kp.mk hown; have HB3 := Kp.mk (HB2.out.grown hg HB2.out.size (own_base4 HO2.out.own)); clear hown hg hat))
              go_roundw
              case rel => exact ⟨k + 1, _, by omega, by go_num, HO3, ⟨by rw [List.map_append, HQ.out, HD.out]; rfl⟩, HB3⟩
              case measure => simp [intOf]; omega
        · obtain rfl : N = k := by omega
          go_wp2_with fail
          go_ret2
          exact ⟨HB1.out.trans (HB.out.mono HB1.out.size), .inr ⟨HAll.out, u7, qs, L, HR.out, HLn.out.trans HN.out, rfl, HO.out.lower HB1.out.size, by rw [HLn.out]; exact HQ.out⟩⟩
end Go.Proofs.Ytpgkpigpehehmaa.Bas
