import Derived.Test.YtpgkpigpehehmaaBasG
import Derived.Handy
import Derived.Deep.RegionHeld3
set_option linter.unusedVariables false
set_option linter.unusedSimpArgs false
namespace Go.Proofs.Ytpgkpigpehehmaa.Bas
open Go.RowKit Go.Maps

def enD : En := ⟨⟨[], 0, 0⟩, []⟩
/-- A slice of entries that is read. -/
structure Es (w : World) (A : Option Addr) (n c : Nat) (es : List En) : Prop where
  len : es.length = n
  max : n ≤ 1000000
  nil : A = none → n = 0 ∧ c = 0
  cell : 0 < n → ∃ b off, A = some ⟨b, off, none⟩ ∧ ∀ i, i < n → ∃ vs, EnC w vs (es.getD i enD) ∧ ∀ j v, vs[j]? = some v → w.cell? ⟨b, off + i * 4 + j, none⟩ = some v
theorem Es.below {w W : World} {A : Option Addr} {n c : Nat} {es : List En} (h : Es w A n c es) (hb : Below w.heap.size w W) : Es W A n c es :=
  ⟨h.len, h.max, h.nil, fun hn => by
    obtain ⟨b, off, e, hc⟩ := h.cell hn
    refine ⟨b, off, e, fun i hi => ?_⟩
    obtain ⟨vs, h1, h2⟩ := hc i hi
    exact ⟨vs, h1.below hb, fun j v hv => cell_kept hb (h2 j v hv)⟩⟩
def risesFrom : List En → Bool
  | [] => true
  | [_] => true
  | a :: b :: r => decide (keyCmp a.k b.k < 0) && risesFrom (b :: r)

theorem rises_step {es : List En} {q : Nat} (h : q + 1 < es.length) : risesFrom (es.drop q) = (decide (keyCmp (es.getD q enD).k (es.getD (q + 1) enD).k < 0) && risesFrom (es.drop (q + 1))) := by
  have h1 : es.drop q = es.getD q enD :: es.drop (q + 1) := by rw [List.drop_eq_getElem_cons (by omega)]; simp [List.getD, show q < es.length by omega]
  have h2 : es.drop (q + 1) = es.getD (q + 1) enD :: es.drop (q + 2) := by rw [List.drop_eq_getElem_cons (by omega)]; simp [List.getD, h]
  rw [h1, h2]; rfl
theorem rises_end {es : List En} {q : Nat} (h : es.length ≤ q + 1) : risesFrom (es.drop q) = true := by
  have : (es.drop q).length ≤ 1 := by rw [List.length_drop]; omega
  match hd : es.drop q, this with
  | [], _ => rfl
  | [_], _ => rfl

set_option maxHeartbeats 2000000 in
set_option maxRecDepth 100000 in
theorem rising_any {w : World} {A : Option Addr} {n c : Nat} {es : List En} (h : Es w A n c es) : Calls Try.prog 17 #[.slice A n c] w fun e w' => e = .returned (.bool (risesFrom es)) ∧ Below w.heap.size w w' := by
  have hm := h.max
  have hl := h.len
  have H := Kp.mk h
  clear h
  go_enter Try.func17, Try.ntmps17
  go_wp2_with fail
  go_loopw [3] (fun i wr => ∃ k : Nat, k ≤ n + 1 ∧ 1 ≤ k ∧ i = .int .i64 k ∧ Kp (risesFrom es = risesFrom (es.drop (k - 1))) ∧ Kp (Below w.heap.size w wr)) (fun i _ => n + 1 - (intOf i).toNat)
  case atStart => exact ⟨1, by omega, by omega, rfl, ⟨rfl⟩, ⟨Below.refl _ _⟩⟩
  case round =>
    obtain ⟨k, hk, hk1, rfl, HR, HB⟩ := hrel
    by_cases hlt : k < n
    · obtain ⟨q, hq⟩ : ∃ q, k = q + 1 := ⟨k - 1, by omega⟩
      have hw : IntKind.i64.wrap ((k : Int) - 1) = (q : Int) := (IntWalk.i64_in _ (by omega)).trans (by omega)
      have hqn : q < n := by omega
      have hqn' : ¬ n ≤ q := by omega
      have hkn' : ¬ n ≤ k := by omega
      obtain ⟨b, off, rfl, hc⟩ := (H.out.below HB.out).cell (by omega)
      obtain ⟨us, hu, hu'⟩ := hc q (by omega)
      obtain ⟨vs, hv, hv'⟩ := hc k (by omega)
      obtain ⟨A0, n0, c0, A0', n0', c0', rfl, a1, a2, a3, a4⟩ := hu
      obtain ⟨A1, n1, c1, A1', n1', c1', rfl, b1, b2, b3, b4⟩ := hv
      have x0 := hu' 0 _ rfl
      rw [Nat.add_zero] at x0
      have x1 := hu' 1 _ rfl
      have x2 := hu' 2 _ rfl
      have y0 := hv' 0 _ rfl
      rw [Nat.add_zero] at y0
      have y1 := hv' 1 _ rfl
      have y2 := hv' 2 _ rfl
      clear hc hu' hv'
      go_wp2_with fail
      have hky : ∀ W, Below wr.heap.size wr W → KyV W (.agg #[.slice A0 n0 c0, .int .u64 (es.getD q enD).k.seq, .int .i64 (es.getD q enD).k.kind]) (es.getD q enD).k := fun W hb => ⟨_, _, _, rfl, a1.below hb, a2⟩
      have hky' : ∀ W, Below wr.heap.size wr W → KyV W (.agg #[.slice A1 n1 c1, .int .u64 (es.getD k enD).k.seq, .int .i64 (es.getD k enD).k.kind]) (es.getD k enD).k := fun W hb => ⟨_, _, _, rfl, b1.below hb, b2⟩
      have Hk := Kp.mk hky
      have Hk' := Kp.mk hky'
      clear hky hky' a1 a2 a3 a4 b1 b2 b3 b4
      obtain ⟨ka, hka⟩ : ∃ ka, ka = (es.getD q enD).k := ⟨_, rfl⟩
      obtain ⟨kb, hkb⟩ : ∃ kb, kb = (es.getD k enD).k := ⟨_, rfl⟩
      rw [← hka] at Hk x1 x2
      rw [← hkb] at Hk' y1 y2
      have Hka := Kp.mk hka
      have Hkb := Kp.mk hkb
      clear hka hkb
      have Hq := Kp.mk hq
      clear hq
      have Hst := Kp.mk (HR.out.trans (rises_step (q := k - 1) (by have := Hq.out; omega)))
      have hkk : k - 1 + 1 = k := by omega
      have hkq : k - 1 = q := by have := Hq.out; omega
      rw [hkk, hkq, ← Hka.out, ← Hkb.out] at Hst
      clear hkk hkq HR
      obtain ⟨d, hd⟩ : ∃ d, d = keyCmp ka kb := ⟨_, rfl⟩
      have Hc := fun (W : World) (hb : Below wr.heap.size wr W) => key_compare (Hk.out W hb) (Hk'.out W hb)
      rw [← hd] at Hc Hst
      have HC := Kp.mk Hc
      clear Hc hd
      by_cases hneg : d < 0
      · have Hn := Kp.mk (Hst.out.trans (by rw [decide_eq_true hneg, Bool.true_and]))
        clear Hst
        go_region_with (first
          | (go_at_call 20; refine (HC.out _ ((Below.refl _ _).drew)).mono ?_; rintro e w1 ⟨rfl, hb1⟩; have HB1 := Kp.mk (HB.out.trans (((Below.refl wr.heap.size wr).drew.trans hb1).mono HB.out.size)); clear hb1))
        all_goals
          go_wp2
          go_roundw
          case rel => exact ⟨k + 1, by omega, by omega, by go_num, Hn, HB1⟩
          case measure => simp [intOf]; omega
      · have Hn := Kp.mk (Hst.out.trans (by rw [decide_eq_false hneg, Bool.false_and]))
        clear Hst
        go_region_with (first
          | (go_at_call 20; refine (HC.out _ ((Below.refl _ _).drew)).mono ?_; rintro e w1 ⟨rfl, hb1⟩; have HB1 := Kp.mk (HB.out.trans (((Below.refl wr.heap.size wr).drew.trans hb1).mono HB.out.size)); clear hb1))
        all_goals
          go_wp2
          go_ret
          exact ⟨ret_bool Hn.out.symm, HB1.out⟩
    · have Hn := Kp.mk (HR.out.trans (rises_end (q := k - 1) (by omega)))
      clear HR
      go_wp2
      go_ret
      exact ⟨ret_bool Hn.out.symm, HB.out⟩
end Go.Proofs.Ytpgkpigpehehmaa.Bas
