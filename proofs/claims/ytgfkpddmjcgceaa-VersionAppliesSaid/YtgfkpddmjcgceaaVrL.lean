import Derived.Test.YtgfkpddmjcgceaaVrK
set_option linter.unusedVariables false
set_option linter.unusedSimpArgs false
namespace Go.Proofs.Ytgfkpddmjcgceaa.Kx
open Go.RowKit Go.Maps Go.Proofs.YtgfkpddmjcgceaaW.PrintWords

def ReadQ (l : List Rn) (w : World) (e : Ending) (w' : World) : Prop := ∃ A c, e = .returned (.slice A l.length c) ∧ l.length ≤ c ∧ kRn.C w' A l.length l ∧ Below w.heap.size w w'
theorem C_fixed {w0 w : World} {A : Option Addr} {n : Nat} {xs : List Rn} (hb : Below w0.heap.size w0 w) (h : (Kd.fixed kRn w0).C w A n xs) : kRn.C w A n xs :=
  ReadsRow.imp_ h (Below.refl _ _) (fun _ _ hp => kRn.K_below hb hp)
theorem rows_fixed {w0 w : World} {A : Option Addr} {n : Nat} {xs : List Rn} (hb : Below w0.heap.size w0 w) (h : kRn.C w0 A n xs) : ReadsRow (kRn.K w0) kRn.sz w A n xs :=
  ReadsRow.imp_ h hb (fun _ _ hp => hp)
set_option maxHeartbeats 2000000 in
set_option maxRecDepth 100000 in
theorem concat3 {w : World} {p c0 c1 c2 : Nat} {A0 A1 A2 : Option Addr} {xs ys zs : List Rn} (h0 : w.cell? ⟨p, 0, none⟩ = some (.slice A0 xs.length c0)) (h1 : w.cell? ⟨p, 1, none⟩ = some (.slice A1 ys.length c1)) (h2 : w.cell? ⟨p, 2, none⟩ = some (.slice A2 zs.length c2))
    (hx : kRn.C w A0 xs.length xs) (hy : kRn.C w A1 ys.length ys) (hz : kRn.C w A2 zs.length zs) (hl : xs.length + ys.length + zs.length ≤ 100000) :
    Calls Try.prog 26 #[.slice (some ⟨p, 0, none⟩) 3 3] w (ReadQ (xs ++ ys ++ zs) w) := by
  obtain ⟨L, hL⟩ : ∃ L, L = xs ++ ys ++ zs := ⟨_, rfl⟩
  rw [← hL]
  have HL := Kp.mk hL
  clear hL
  have HX := Kp.mk hx
  have HY := Kp.mk hy
  have HZ := Kp.mk hz
  obtain ⟨n0, hn0⟩ : ∃ n, n = xs.length := ⟨_, rfl⟩
  obtain ⟨n1, hn1⟩ : ∃ n, n = ys.length := ⟨_, rfl⟩
  obtain ⟨n2, hn2⟩ : ∃ n, n = zs.length := ⟨_, rfl⟩
  rw [← hn0] at h0 hl HX
  rw [← hn1] at h1 hl HY
  rw [← hn2] at h2 hl HZ
  have Hn0 := Kp.mk hn0
  have Hn1 := Kp.mk hn1
  have Hn2 := Kp.mk hn2
  have G0 := Kp.mk h0
  have G1 := Kp.mk h1
  have G2 := Kp.mk h2
  clear hx hy hz hn0 hn1 hn2
  go_enter Try.func26, Try.ntmps26
  go_wp2_with fail
  go_loop [11, 3] (fun i s => ∃ (k a : Nat), k ≤ 3 ∧ a ≤ 100000 ∧ i = .int .i64 k ∧ s = .int .i64 a ∧ Kp ((k = 0 → a = 0) ∧ (k = 1 → a = n0) ∧ (k = 2 → a = n0 + n1) ∧ (k = 3 → a = n0 + n1 + n2))) (fun i _ => 3 - (intOf i).toNat)
  case atStart => exact ⟨0, 0, by omega, by omega, rfl, rfl, ⟨by omega, by omega, by omega, by omega⟩⟩
  case round =>
    obtain ⟨k, a, hk, ha, rfl, rfl, HP⟩ := hrel
    obtain ⟨p0, p1, p2, p3⟩ := HP.out
    have hcase : k = 0 ∨ k = 1 ∨ k = 2 ∨ k = 3 := by omega
    rcases hcase with rfl | rfl | rfl | rfl
    · have e := p0 rfl
      clear p0 p1 p2 p3
      subst e
      go_wp2
      go_round
      case rel => exact ⟨1, n0, by omega, by omega, rfl, by go_num, ⟨by omega, by omega, by omega, by omega⟩⟩
      case measure => decide
    · have e := p1 rfl
      clear p0 p1 p2 p3
      subst e
      go_wp2
      go_round
      case rel => exact ⟨2, a + n1, by omega, by omega, rfl, by go_num, ⟨by omega, by omega, by omega, by omega⟩⟩
      case measure => decide
    · have e := p2 rfl
      clear p0 p1 p2 p3
      subst e
      go_wp2
      go_round
      case rel => exact ⟨3, n0 + n1 + n2, by omega, by omega, rfl, by go_num, ⟨by omega, by omega, by omega, by omega⟩⟩
      case measure => decide
    · clear p0 p1 p2 p3 h0 h1 h2
      go_wp2_with fail
      refine (grow_nil w w a (by omega)).mono ?_
      rintro e w1 ⟨v1, rfl, hR1, hB1⟩
      have HR1 := Kp.mk hR1
      have HB1 := Kp.mk hB1
      clear hR1 hB1 HP
      go_wp2_with fail
      go_loopw [27, 6] (fun i v wr => ∃ (k : Nat) (l : List Rn), k ≤ 3 ∧ i = .int .i64 k ∧ Kp ((k = 0 → l = []) ∧ (k = 1 → l = xs) ∧ (k = 2 → l = xs ++ ys) ∧ (k = 3 → l = xs ++ ys ++ zs)) ∧ Kp ((Kd.fixed kRn w).R 42 wr w.heap.size (fun _ => True) v l) ∧ Kp (Below w.heap.size w wr)) (fun i _ _ => 3 - (intOf i).toNat)
      case atStart => exact ⟨0, [], by omega, rfl, ⟨fun _ => rfl, by omega, by omega, by omega⟩, HR1, HB1⟩
      case round =>
        clear HR1 HB1
        obtain ⟨k, l, hk, rfl, HP, HO, HB⟩ := hrel
        obtain ⟨p0, p1, p2, p3⟩ := HP.out
        have hcase : k = 0 ∨ k = 1 ∨ k = 2 ∨ k = 3 := by omega
        have HWs := Kp.mk HB.out.size
        rcases hcase with rfl | rfl | rfl | rfl
        · have e := p0 rfl
          clear p0 p1 p2 p3
          subst e
          have g0 := pw_cell_below HB.out G0.out
          have HQ : Kp (([] : List Rn).length + n0 ≤ 100000) := ⟨by simp; omega⟩
          go_wp2_with (at_builtin; refine Kd.R_append_rows (Kd.fixed kRn w) (Rr := kRn.K w) (w0 := w) w.heap.size rfl (.tmp 31) (.tmp 32) 24 42 (.agg #[.int .i64 0, .int .i64 0, .int .i64 0, .slice none 0 0, .slice none 0 0, .int .u64 0]) 80 rfl Try.underlying24 Try.infoRn rfl (Nat.succ_pos 5) (by decide) _ [] xs A0 n0 c0 (fun _ => True) (fun _ => False) rfl rfl HO.out (rows_fixed HB.out HX.out) (fun _ _ h => h) (fun _ h => h.elim) (fun _ _ => trivial) HB.out HWs.out (by have := HQ.out; omega) ?_; intro v2 w2 hR hB hg hat; have HR := Kp.mk hR; have HB2 := Kp.mk hB; clear hR hB hg hat)
          go_roundw
          case rel => exact ⟨1, xs, by omega, rfl, ⟨by omega, fun _ => rfl, by omega, by omega⟩, HR, HB2⟩
          case measure => decide
        · have e := p1 rfl
          clear p0 p1 p2 p3
          subst e
          have g0 := pw_cell_below HB.out G1.out
          have HQ : Kp (l.length + n1 ≤ 100000) := ⟨by have := Hn0.out; omega⟩
          go_wp2_with (at_builtin; refine Kd.R_append_rows (Kd.fixed kRn w) (Rr := kRn.K w) (w0 := w) w.heap.size rfl (.tmp 31) (.tmp 32) 24 42 (.agg #[.int .i64 0, .int .i64 0, .int .i64 0, .slice none 0 0, .slice none 0 0, .int .u64 0]) 80 rfl Try.underlying24 Try.infoRn rfl (Nat.succ_pos 5) (by decide) _ l ys A1 n1 c1 (fun _ => True) (fun _ => False) rfl rfl HO.out (rows_fixed HB.out HY.out) (fun _ _ h => h) (fun _ h => h.elim) (fun _ _ => trivial) HB.out HWs.out (by have := HQ.out; omega) ?_; intro v2 w2 hR hB hg hat; have HR := Kp.mk hR; have HB2 := Kp.mk hB; clear hR hB hg hat)
          go_roundw
          case rel => exact ⟨2, l ++ ys, by omega, rfl, ⟨by omega, by omega, fun _ => rfl, by omega⟩, HR, HB2⟩
          case measure => decide
        · have e := p2 rfl
          clear p0 p1 p2 p3
          have He := Kp.mk e
          clear e
          have g0 := pw_cell_below HB.out G2.out
          have HQ : Kp (l.length + n2 ≤ 100000) := ⟨by rw [He.out, List.length_append, ← Hn0.out, ← Hn1.out]; omega⟩
          go_wp2_with (at_builtin; refine Kd.R_append_rows (Kd.fixed kRn w) (Rr := kRn.K w) (w0 := w) w.heap.size rfl (.tmp 31) (.tmp 32) 24 42 (.agg #[.int .i64 0, .int .i64 0, .int .i64 0, .slice none 0 0, .slice none 0 0, .int .u64 0]) 80 rfl Try.underlying24 Try.infoRn rfl (Nat.succ_pos 5) (by decide) _ l zs A2 n2 c2 (fun _ => True) (fun _ => False) rfl rfl HO.out (rows_fixed HB.out HZ.out) (fun _ _ h => h) (fun _ h => h.elim) (fun _ _ => trivial) HB.out HWs.out (by have := HQ.out; omega) ?_; intro v2 w2 hR hB hg hat; have HR := Kp.mk hR; have HB2 := Kp.mk hB; clear hR hB hg hat)
          go_roundw
          case rel => exact ⟨3, l ++ zs, by omega, rfl, ⟨by omega, by omega, by omega, fun _ => by rw [He.out]⟩, HR, HB2⟩
          case measure => decide
        · have e := p3 rfl
          clear p0 p1 p2 p3
          have He := Kp.mk (e.trans HL.out.symm)
          clear e
          obtain rfl := He.out
          clear He
          obtain ⟨A9, c9, rfl, hl9, hC9⟩ := Kd.R_reads HO.out
          have Hl9 := Kp.mk hl9
          have HC9 := Kp.mk (C_fixed HB.out hC9)
          clear hl9 hC9 HO
          go_wp2_with fail
          go_ret
          exact ⟨A9, c9, rfl, Hl9.out, HC9.out, HB.out⟩
end Go.Proofs.Ytgfkpddmjcgceaa.Kx
