import Derived.Test.YtinffeffffligaaBlR
set_option linter.unusedVariables false
set_option linter.unusedSimpArgs false
namespace Go.Proofs.Ytinffeffffligaa.Bas
open Go.RowKit Go.Maps

set_option maxHeartbeats 2000000 in
set_option maxRecDepth 100000 in
theorem check_any {w : World} {A : Option Addr} {n c : Nat} {es : List En} (h : Es w A n c es) : Calls Try.prog 24 #[.slice A n c] w fun e w' => e = .returned (.int .i64 (chkB es)) ∧ Below w.heap.size w w' := by
  have hm := h.max
  have hl := h.len
  have H := Kp.mk h
  clear h
  go_enter Try.func24, Try.ntmps24
  go_wp2_with fail
  go_loopw [8] (fun i wr => ∃ k : Nat, k ≤ n ∧ i = .int .i64 k ∧ Kp (∀ j, j < k → RightE (es.getD j enD)) ∧ Kp (Below w.heap.size w wr)) (fun i _ => n - (intOf i).toNat)
  case atStart => exact ⟨0, Nat.zero_le _, rfl, ⟨fun j hj => by omega⟩, ⟨Below.refl _ _⟩⟩
  case round =>
    obtain ⟨k, hk, rfl, HA, HB⟩ := hrel
    by_cases hlt : k < n
    · obtain ⟨b, off, rfl, hc⟩ := (H.out.below HB.out).cell (by omega)
      obtain ⟨us, hu, hu'⟩ := hc k hlt
      obtain ⟨en, hen⟩ : ∃ en, en = es.getD k enD := ⟨_, rfl⟩
      rw [← hen] at hu
      have Hu := Kp.mk hu
      have Hen := Kp.mk hen
      obtain ⟨A0, n0, c0, A0', n0', c0', rfl, a1, a2, a3, a4⟩ := hu
      have x0 : wr.cell? ⟨b, off + k * 4, none⟩ = some (.slice A0 n0 c0) := hu' 0 _ rfl
      have x1 : wr.cell? ⟨b, off + k * 4 + 1, none⟩ = some (.int .u64 en.k.seq) := hu' 1 _ rfl
      have x2 : wr.cell? ⟨b, off + k * 4 + 2, none⟩ = some (.int .i64 en.k.kind) := hu' 2 _ rfl
      have x3 : wr.cell? ⟨b, off + k * 4 + 3, none⟩ = some (.slice A0' n0' c0') := hu' 3 _ rfl
      obtain ⟨r, hr⟩ : ∃ r, decide (RightE en) = r := ⟨_, rfl⟩
      have hb0 := alloc_below wr (.cells #[.slice A0 n0 c0, .int .u64 en.k.seq, .int .i64 en.k.kind, .slice A0' n0' c0'] 48)
      have hcall := right_entry (Hu.out.below hb0)
      have HB0 := Kp.mk (HB.out.trans (hb0.mono HB.out.size))
      rw [hr] at hcall
      have HC := Kp.mk hcall
      have Hr := Kp.mk hr
      clear hcall hr hc hu' hb0 a1 a2 a3 a4 hen
      cases r with
      | false =>
        have HD := Kp.mk (chk_one (es := es) (k := k) (by omega) (by rw [← Hen.out]; exact of_decide_eq_false Hr.out))
        go_wp2_with (go_at_call 41; refine HC.out.mono ?_; rintro e w1 ⟨rfl, hb1⟩; have HB1 := Kp.mk (HB0.out.trans (hb1.mono HB0.out.size)); clear hb1)
        go_ret
        exact ⟨ret_int HD.out.symm, HB1.out⟩
      | true =>
        have HA2 : Kp (∀ j, j < k + 1 → RightE (es.getD j enD)) := ⟨fun j hj => by
          by_cases hjk : j = k
          · rw [hjk, ← Hen.out]; exact of_decide_eq_true Hr.out
          · exact HA.out j (by omega)⟩
        clear HA
        go_wp2_with (go_at_call 41; refine HC.out.mono ?_; rintro e w1 ⟨rfl, hb1⟩; have HB1 := Kp.mk (HB0.out.trans (hb1.mono HB0.out.size)); clear hb1)
        go_roundw
        case rel => exact ⟨k + 1, by omega, by go_num, HA2, HB1⟩
        case measure => simp [intOf]; omega
    · have HAll := Kp.mk (all_right (es := es) (fun j hj => HA.out j (by omega)))
      have HBs := HB
      have Hl := Kp.mk hl
      clear HA HB
      go_wp2_with fail
      go_loopw [5] (fun i wr => ∃ k : Nat, k ≤ n + 1 ∧ 1 ≤ k ∧ i = .int .i64 k ∧ Kp (risesFrom es = risesFrom (es.drop (k - 1))) ∧ Kp (Below w.heap.size w wr)) (fun i _ => n + 1 - (intOf i).toNat)
      case atStart => exact ⟨1, by omega, by omega, rfl, ⟨rfl⟩, HBs⟩
      case round =>
        obtain ⟨k, hk, hk1, rfl, HR, HB⟩ := hrel
        by_cases hlt : k < n
        · obtain ⟨q, hq⟩ : ∃ q, k = q + 1 := ⟨k - 1, by omega⟩
          have hw : IntKind.i64.wrap ((k : Int) - 1) = (q : Int) := (IntWalk.i64_in _ (by omega)).trans (by omega)
          have hqn : q < n := by omega
          have hqn' : ¬ n ≤ q := by omega
          have hkn' : ¬ n ≤ k := by omega
          obtain ⟨b, off, rfl, hc⟩ := (H.out.below HB.out).cell (by omega)
          obtain ⟨us, hu, hu'⟩ := hc q (by omega)
          obtain ⟨vs, hv, hv'⟩ := hc k (by omega)
          obtain ⟨A0, n0, c0, A0', n0', c0', rfl, a1, a2, a3, a4⟩ := hu
          obtain ⟨A1, n1, c1, A1', n1', c1', rfl, b1, b2, b3, b4⟩ := hv
          have x0 := hu' 0 _ rfl
          rw [Nat.add_zero] at x0
          have x1 := hu' 1 _ rfl
          have x2 := hu' 2 _ rfl
          have y0 := hv' 0 _ rfl
          rw [Nat.add_zero] at y0
          have y1 := hv' 1 _ rfl
          have y2 := hv' 2 _ rfl
          clear hc hu' hv'
          go_wp2_with fail
          have hky : ∀ W, Below wr.heap.size wr W → KyV W (.agg #[.slice A0 n0 c0, .int .u64 (es.getD q enD).k.seq, .int .i64 (es.getD q enD).k.kind]) (es.getD q enD).k := fun W hb => ⟨_, _, _, rfl, a1.below hb, a2⟩
          have hky' : ∀ W, Below wr.heap.size wr W → KyV W (.agg #[.slice A1 n1 c1, .int .u64 (es.getD k enD).k.seq, .int .i64 (es.getD k enD).k.kind]) (es.getD k enD).k := fun W hb => ⟨_, _, _, rfl, b1.below hb, b2⟩
          have Hk := Kp.mk hky
          have Hk' := Kp.mk hky'
          clear hky hky' a1 a2 a3 a4 b1 b2 b3 b4
          obtain ⟨ka, hka⟩ : ∃ ka, ka = (es.getD q enD).k := ⟨_, rfl⟩
          obtain ⟨kb, hkb⟩ : ∃ kb, kb = (es.getD k enD).k := ⟨_, rfl⟩
          rw [← hka] at Hk x1 x2
          rw [← hkb] at Hk' y1 y2
          have Hka := Kp.mk hka
          have Hkb := Kp.mk hkb
          clear hka hkb
          have Hq := Kp.mk hq
          clear hq
          have Hst := Kp.mk (HR.out.trans (rises_step (q := k - 1) (by have := Hq.out; omega)))
          have hkk : k - 1 + 1 = k := by omega
          have hkq : k - 1 = q := by have := Hq.out; omega
          rw [hkk, hkq, ← Hka.out, ← Hkb.out] at Hst
          clear hkk hkq HR
          obtain ⟨d, hd⟩ : ∃ d, d = keyCmp ka kb := ⟨_, rfl⟩
          have Hc := fun (W : World) (hb : Below wr.heap.size wr W) => key_compare (Hk.out W hb) (Hk'.out W hb)
          rw [← hd] at Hc Hst
          have HC := Kp.mk Hc
          clear Hc hd
          by_cases hneg : d < 0
          · have Hn := Kp.mk (Hst.out.trans (by rw [decide_eq_true hneg, Bool.true_and]))
            clear Hst
            go_region_with (first
              | (go_at_call 39; refine (HC.out _ ((Below.refl _ _).drew)).mono ?_; rintro e w1 ⟨rfl, hb1⟩; have HB1 := Kp.mk (HB.out.trans (((Below.refl wr.heap.size wr).drew.trans hb1).mono HB.out.size)); clear hb1))
            all_goals
              go_wp2
              go_roundw
              case rel => exact ⟨k + 1, by omega, by omega, by go_num, Hn, HB1⟩
              case measure => simp [intOf]; omega
          · have Hn := Kp.mk (Hst.out.trans (by rw [decide_eq_false hneg, Bool.false_and]))
            clear Hst
            go_region_with (first
              | (go_at_call 39; refine (HC.out _ ((Below.refl _ _).drew)).mono ?_; rintro e w1 ⟨rfl, hb1⟩; have HB1 := Kp.mk (HB.out.trans (((Below.refl wr.heap.size wr).drew.trans hb1).mono HB.out.size)); clear hb1))
            all_goals
              go_wp2
              go_ret
              exact ⟨ret_int (by unfold chkB; rw [HAll.out, Hn.out]; rfl), HB1.out⟩
        · have Hn := Kp.mk (HR.out.trans (rises_end (q := k - 1) (by omega)))
          clear HR
          by_cases hbig : 10000 < n
          · go_wp2
            go_ret
            exact ⟨ret_int (by unfold chkB; rw [HAll.out, Hn.out, if_pos rfl, if_pos rfl, if_pos (by rw [Hl.out]; exact hbig)]), HB.out⟩
          · go_wp2
            go_ret
            exact ⟨ret_int (by unfold chkB; rw [HAll.out, Hn.out, if_pos rfl, if_pos rfl, if_neg (by rw [Hl.out]; exact hbig)]), HB.out⟩
end Go.Proofs.Ytinffeffffligaa.Bas
