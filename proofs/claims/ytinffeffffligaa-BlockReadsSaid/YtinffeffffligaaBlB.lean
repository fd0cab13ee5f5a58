import Derived.Test.YtinffeffffligaaBlA
import Derived.Handy
import Derived.Deep.RegionHeld3
set_option linter.unusedVariables false
set_option linter.unusedSimpArgs false
namespace Go.Proofs.Ytinffeffffligaa.Bas
open Go.RowKit Go.Maps

set_option maxHeartbeats 2000000 in
set_option maxRecDepth 100000 in
theorem ref_rising {w : World} {A : Option Addr} {n c : Nat} {es : List En} (h : Es w A n c es) : Calls Try.prog 45 #[.slice A n c] w fun e w' => e = .returned (.bool (risesFrom es)) ∧ Below w.heap.size w w' := by
  have hm := h.max
  have hl := h.len
  have H := Kp.mk h
  clear h
  go_enter Try.func45, Try.ntmps45
  go_wp2_with fail
  go_loopw [3] (fun i wr => ∃ k : Nat, k ≤ n + 1 ∧ 1 ≤ k ∧ i = .int .i64 k ∧ Kp (risesFrom es = risesFrom (es.drop (k - 1))) ∧ Kp (Below w.heap.size w wr)) (fun i _ => n + 1 - (intOf i).toNat)
  case atStart => exact ⟨1, by omega, by omega, rfl, ⟨rfl⟩, ⟨Below.refl _ _⟩⟩
  case round =>
    obtain ⟨k, hk, hk1, rfl, HR, HB⟩ := hrel
    by_cases hlt : k < n
    · obtain ⟨q, hq⟩ : ∃ q, k = q + 1 := ⟨k - 1, by omega⟩
      have hw : IntKind.i64.wrap ((k : Int) - 1) = (q : Int) := (IntWalk.i64_in _ (by omega)).trans (by omega)
      have hqn : q < n := by omega
      have hqn' : ¬ n ≤ q := by omega
      have hkn' : ¬ n ≤ k := by omega
      obtain ⟨b, off, rfl, hc⟩ := (H.out.below HB.out).cell (by omega)
      obtain ⟨us, hu, hu'⟩ := hc q (by omega)
      obtain ⟨vs, hv, hv'⟩ := hc k (by omega)
      obtain ⟨A0, n0, c0, A0', n0', c0', rfl, a1, a2, a3, a4⟩ := hu
      obtain ⟨A1, n1, c1, A1', n1', c1', rfl, b1, b2, b3, b4⟩ := hv
      have x0 := hu' 0 _ rfl
      rw [Nat.add_zero] at x0
      have x1 := hu' 1 _ rfl
      have x2 := hu' 2 _ rfl
      have y0 := hv' 0 _ rfl
      rw [Nat.add_zero] at y0
      have y1 := hv' 1 _ rfl
      have y2 := hv' 2 _ rfl
      clear hc hu' hv'
      go_wp2_with fail
      have hky : ∀ W, Below wr.heap.size wr W → KyV W (.agg #[.slice A0 n0 c0, .int .u64 (es.getD q enD).k.seq, .int .i64 (es.getD q enD).k.kind]) (es.getD q enD).k := fun W hb => ⟨_, _, _, rfl, a1.below hb, a2⟩
      have hky' : ∀ W, Below wr.heap.size wr W → KyV W (.agg #[.slice A1 n1 c1, .int .u64 (es.getD k enD).k.seq, .int .i64 (es.getD k enD).k.kind]) (es.getD k enD).k := fun W hb => ⟨_, _, _, rfl, b1.below hb, b2⟩
      have Hk := Kp.mk hky
      have Hk' := Kp.mk hky'
      clear hky hky' a1 a2 a3 a4 b1 b2 b3 b4
      obtain ⟨ka, hka⟩ : ∃ ka, ka = (es.getD q enD).k := ⟨_, rfl⟩
      obtain ⟨kb, hkb⟩ : ∃ kb, kb = (es.getD k enD).k := ⟨_, rfl⟩
      rw [← hka] at Hk x1 x2
      rw [← hkb] at Hk' y1 y2
      have Hka := Kp.mk hka
      have Hkb := Kp.mk hkb
      clear hka hkb
      have Hq := Kp.mk hq
      clear hq
      have Hst := Kp.mk (HR.out.trans (rises_step (q := k - 1) (by have := Hq.out; omega)))
      have hkk : k - 1 + 1 = k := by omega
      have hkq : k - 1 = q := by have := Hq.out; omega
      rw [hkk, hkq, ← Hka.out, ← Hkb.out] at Hst
      clear hkk hkq HR
      obtain ⟨d, hd⟩ : ∃ d, d = keyCmp ka kb := ⟨_, rfl⟩
      have Hc := fun (W : World) (hb : Below wr.heap.size wr W) => ref_key_compare (Hk.out W hb) (Hk'.out W hb)
      rw [← hd] at Hc Hst
      have HC := Kp.mk Hc
      clear Hc hd
      by_cases hneg : d < 0
      · have Hn := Kp.mk (Hst.out.trans (by rw [decide_eq_true hneg, Bool.true_and]))
        clear Hst
        go_region_with (first
          | (go_at_call 19; refine (HC.out _ ((Below.refl _ _).drew)).mono ?_; rintro e w1 ⟨rfl, hb1⟩; have HB1 := Kp.mk (HB.out.trans (((Below.refl wr.heap.size wr).drew.trans hb1).mono HB.out.size)); clear hb1))
        all_goals
          go_wp2
          go_roundw
          case rel => exact ⟨k + 1, by omega, by omega, by go_num, Hn, HB1⟩
          case measure => simp [intOf]; omega
      · have Hn := Kp.mk (Hst.out.trans (by rw [decide_eq_false hneg, Bool.false_and]))
        clear Hst
        go_region_with (first
          | (go_at_call 19; refine (HC.out _ ((Below.refl _ _).drew)).mono ?_; rintro e w1 ⟨rfl, hb1⟩; have HB1 := Kp.mk (HB.out.trans (((Below.refl wr.heap.size wr).drew.trans hb1).mono HB.out.size)); clear hb1))
        all_goals
          go_wp2
          go_ret
          exact ⟨ret_bool Hn.out.symm, HB1.out⟩
    · have Hn := Kp.mk (HR.out.trans (rises_end (q := k - 1) (by omega)))
      clear HR
      go_wp2
      go_ret
      exact ⟨ret_bool Hn.out.symm, HB.out⟩
end Go.Proofs.Ytinffeffffligaa.Bas
