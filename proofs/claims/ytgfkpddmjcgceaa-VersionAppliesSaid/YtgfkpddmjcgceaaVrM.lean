import Derived.Test.YtgfkpddmjcgceaaVrK
import Derived.Test.YtgfkpddmjcgceaaKaC
set_option linter.unusedVariables false
set_option linter.unusedSimpArgs false
namespace Go.Proofs.Ytgfkpddmjcgceaa.Kx
open Go.RowKit Go.Maps Go.Proofs.YtgfkpddmjcgceaaW.PrintWords

theorem made_ok {W w1 : World} {e : TypeId} {v : Value} {xs : List Int} (h : (Kd.int .u8).R e w1 W.heap.size (fun _ => True) v xs) {q B : Nat} (hq : q < W.heap.size) (hB : B ≤ W.heap.size) : (Kd.int .u8).R e w1 B (fun k => q < k) v xs :=
  Kd.R_lower (Kd.R_mono (Kd.R_bound h) (fun k hk => by have := hk.2.1; omega)) hB
/-- What a function leaves that makes a row of runs of its own. -/
def MadeR (l : List Rn) (w : World) (e : Ending) (w' : World) : Prop := ∃ v, e = .returned v ∧ kRn.R 42 w' w.heap.size (fun _ => True) v l ∧ Below w.heap.size w w'
theorem take_snoc_run {rs : List Rn} {k : Nat} (hk : k < rs.length) : rs.take (k + 1) = rs.take k ++ [rs.getD k zRn] := by
  rw [List.take_succ_eq_append_getElem hk]
  simp [List.getD, hk]
def ShortRs (rs : List Rn) : Prop := ∀ i, i < rs.length → (rs.getD i zRn).first.length ≤ 1000000 ∧ (rs.getD i zRn).last.length ≤ 1000000
set_option maxHeartbeats 4000000 in
set_option maxRecDepth 100000 in
theorem version_own {w : World} {A : Option Addr} {n c : Nat} {rs : List Rn} (h : kRn.C w A n rs) (hn : n ≤ 1000000) (hs : ShortRs rs) :
    Calls Try.prog 25 #[.slice A n c] w (MadeR rs w) := by
  have hl := h.1
  have H := Kp.mk h
  have HS := Kp.mk hs
  clear h hs
  go_enter Try.func25, Try.ntmps25
  go_wp2
  go_loopw [3, 8] (fun v i wr => ∃ k : Nat, k ≤ n ∧ i = .int .i64 k ∧ Kp (kRn.R 42 wr w.heap.size (fun _ => True) v (rs.take k)) ∧ Kp (Below w.heap.size w wr)) (fun _ i _ => n - (intOf i).toNat)
  case atStart => exact ⟨0, Nat.zero_le _, rfl, ⟨Kd.R_nil _ _ _ _ _⟩, ⟨Below.refl _ _⟩⟩
  case round =>
    obtain ⟨k, hk, rfl, HO, HB⟩ := hrel
    by_cases hlt : k < n
    · obtain ⟨ad, A3, c3, A4, c4, rfl, c0, c1, c2, c3', c4', c5, _, g3, _, g4⟩ := rn_at (Kd.C_below H.out HB.out) k hlt
      have Hsn := Kp.mk (take_snoc_run (rs := rs) (k := k) (by omega))
      have Hsh := Kp.mk (HS.out k (by omega))
      obtain ⟨r, hr⟩ : ∃ r, rs.getD k zRn = r := ⟨_, rfl⟩
      rw [hr] at c0 c1 c2 c3' c4' c5 g3 g4 Hsn Hsh
      clear hr
      have G3 := Kp.mk g3
      have G4 := Kp.mk g4
      clear g3 g4
      have HWs := Kp.mk HB.out.size
      have Hlen : Kp ((rs.take k).length = k) := ⟨by rw [List.length_take]; omega⟩
      obtain ⟨xs, hxs⟩ : ∃ xs, xs = rs.take k := ⟨_, rfl⟩
      rw [← hxs] at HO Hsn Hlen
      clear hxs
      go_wp2_with fail
      have k0 := heap_alloc_new wr (.cells #[.int .i64 r.file, .int .i64 r.bytes, .int .i64 r.count, .slice A3 r.first.length c3, .slice A4 r.last.length c4, .int .u64 r.seq] 42)
      have K0 := Kp.mk k0
      have B0 := Kp.mk ((alloc_below wr (.cells #[.int .i64 r.file, .int .i64 r.bytes, .int .i64 r.count, .slice A3 r.first.length c3, .slice A4 r.last.length c4, .int .u64 r.seq] 42)).drew)
      have R3 := Kp.mk (Kd.C_drew (Kd.C_alloc G3.out (.cells #[.int .i64 r.file, .int .i64 r.bytes, .int .i64 r.count, .slice A3 r.first.length c3, .slice A4 r.last.length c4, .int .u64 r.seq] 42)))
      clear k0
      have hq1 : (wr.alloc (.cells #[.int .i64 r.file, .int .i64 r.bytes, .int .i64 r.count, .slice A3 r.first.length c3, .slice A4 r.last.length c4, .int .u64 r.seq] 42)).drew.heap.size = wr.heap.size + 1 := by simp
      have Hq1 := Kp.mk hq1
      clear hq1
      have HE := Kp.mk (Kd.R_drew (Kd.R_alloc (Kd.R_elderB HO.out wr.heap.size (Nat.le_refl _)) (.cells #[.int .i64 r.file, .int .i64 r.bytes, .int .i64 r.count, .slice A3 r.first.length c3, .slice A4 r.last.length c4, .int .u64 r.seq] 42)))
      have HLt := Kp.mk (Kd.R_lt HO.out)
      go_region_with (first
        | (go_at_call_of 42 (Value.slice A3 r.first.length c3); refine (bytes_clone R3.out (by have := Hsh.out.1; omega)).mono ?_; rintro en w1 ⟨v3, rfl, hr1, hb1⟩; obtain ⟨A5, e5, rfl⟩ := Kd.R_slice hr1; have M3 := Kp.mk (made_ok (q := wr.heap.size) (B := w.heap.size) hr1 (by rw [Hq1.out]; omega) (by have := HWs.out; rw [Hq1.out]; omega)); have g1 := (hb1.block wr.heap.size (by rw [Hq1.out]; omega)).trans K0.out; have d0 := cells_top g1 0 _ rfl; have d1 := cells_top g1 1 _ rfl; have d2 := cells_top g1 2 _ rfl; have d3 := cells_top g1 3 _ rfl; have d4 := cells_top g1 4 _ rfl; have d5 := cells_top g1 5 _ rfl; have F1 := Kp.mk (((Fr.refl wr (fun _ => False)).alloc (.cells #[.int .i64 r.file, .int .i64 r.bytes, .int .i64 r.count, .slice A3 r.first.length c3, .slice A4 r.last.length c4, .int .u64 r.seq] 42)).drew.below hb1); have R4 := Kp.mk (Kd.C_below (Kd.C_drew (Kd.C_alloc G4.out (.cells #[.int .i64 r.file, .int .i64 r.bytes, .int .i64 r.count, .slice A3 r.first.length c3, .slice A4 r.last.length c4, .int .u64 r.seq] 42))) hb1); have HE1 := Kp.mk (Kd.R_below HE.out hb1); have K1 := Kp.mk g1; have Z1 := Kp.mk (Nat.le_trans (Nat.le_of_eq Hq1.out.symm) hb1.size); clear hr1 hb1 g1)
        | (go_at_call_of 42 (Value.slice A4 r.last.length c4); refine (bytes_clone R4.out (by have := Hsh.out.2; omega)).mono ?_; rintro en w2 ⟨v4, rfl, hr2, hb2⟩; obtain ⟨A6, e6, rfl⟩ := Kd.R_slice hr2; have M4 := Kp.mk (made_ok (q := wr.heap.size) (B := w.heap.size) hr2 (by have := Z1.out; omega) (by have := Z1.out; have := HWs.out; omega)); have M3' := Kp.mk (Kd.R_below M3.out hb2); have g2 := (hb2.block wr.heap.size (by have := Z1.out; omega)).trans K1.out; have d0 := cells_top g2 0 _ rfl; have d1 := cells_top g2 1 _ rfl; have d2 := cells_top g2 2 _ rfl; have d3 := cells_top g2 3 _ rfl; have d4 := cells_top g2 4 _ rfl; have d5 := cells_top g2 5 _ rfl; have f3 := free_top g2 3; have f4 := free_top g2 4; have F2 := Kp.mk (F1.out.below hb2); have HE2 := Kp.mk (Kd.R_below HE1.out hb2); clear hr2 hb2 g2))
      all_goals
        have HO3 := Kp.mk (Kd.R_mono (Kd.R_far (p := ⟨wr.heap.size, 4, none⟩) (Kd.R_far (p := ⟨wr.heap.size, 3, none⟩) HE2.out (fun k hk => hk.2) (.slice A5 r.first.length e5)) (fun k hk => hk.2) (.slice A6 r.last.length e6)) (ok' := fun _ => True) (fun _ _ => trivial))
        have M3'' := Kd.R_far (p := ⟨wr.heap.size, 4, none⟩) (Kd.R_far (p := ⟨wr.heap.size, 3, none⟩) M3'.out (fun k hk => Nat.ne_of_gt hk) (.slice A5 r.first.length e5)) (fun k hk => Nat.ne_of_gt hk) (.slice A6 r.last.length e6)
        have M4'' := Kd.R_far (p := ⟨wr.heap.size, 4, none⟩) (Kd.R_far (p := ⟨wr.heap.size, 3, none⟩) M4.out (fun k hk => Nat.ne_of_gt hk) (.slice A5 r.first.length e5)) (fun k hk => Nat.ne_of_gt hk) (.slice A6 r.last.length e6)
        have MM := Kp.mk (kRn_mkM _ w.heap.size (fun k => wr.heap.size < k) r M3'' M4'')
        clear M3'' M4''
        have F3 := Kp.mk ((F2.out.setCell (a := ⟨wr.heap.size, 3, none⟩) (.inr (Nat.le_refl _)) (.slice A5 r.first.length e5)).setCell (a := ⟨wr.heap.size, 4, none⟩) (.inr (Nat.le_refl _)) (.slice A6 r.last.length e6))
        have B3 := Kp.mk (HB.out.trans (F3.out.toBelow (B := w.heap.size) (fun k hk => hk.elim) HWs.out))
        have S3 := Kp.mk B3.out.size
        have hsz : w2.heap.size = ((w2.setCell ⟨wr.heap.size, 3, none⟩ (.slice A5 r.first.length e5)).setCell ⟨wr.heap.size, 4, none⟩ (.slice A6 r.last.length e6)).heap.size := by simp [World.setCell]
        have Hsz := Kp.mk hsz
        clear hsz
        go_wp2_with (at_builtin; go_must (refine Kd.R_append kRn (w0 := w) w.heap.size rfl (.tmp 20) (.tmp 22) 24 42 (.agg #[.int .i64 0, .int .i64 0, .int .i64 0, .slice none 0 0, .slice none 0 0, .int .u64 0]) 80 rfl Try.underlying24 Try.infoRn rfl (Nat.succ_pos 5) (by decide) _ xs r [.int .i64 r.file, .int .i64 r.bytes, .int .i64 r.count, (.slice A5 r.first.length e5), (.slice A6 r.last.length e6), .int .u64 r.seq] (fun _ => True) (fun k => wr.heap.size < k) rfl (congrArg (fun z => Value.slice (some ⟨z, 0, none⟩) 1 1) Hsz.out) MM.out (fun k hk => ⟨trivial, fun e => by have := HLt.out k e.symm; omega⟩) (fun _ _ => trivial) HO3.out B3.out S3.out (by have := Hlen.out; omega) ?_); intro v5 w5 hR hB hg hat; have HR := Kp.mk hR; have HB5 := Kp.mk hB; clear hR hB hg hat)
        go_roundw
        case rel => exact ⟨k + 1, by omega, by go_num, ⟨by rw [Hsn.out]; exact HR.out⟩, HB5⟩
        case measure => simp [intOf]; omega
    · have hv : Kp (rs.take k = rs) := ⟨List.take_of_length_le (by omega)⟩
      rw [hv.out] at HO
      clear hv
      go_wp2
      go_ret
      exact ⟨_, rfl, HO.out, HB.out⟩
end Go.Proofs.Ytgfkpddmjcgceaa.Kx
