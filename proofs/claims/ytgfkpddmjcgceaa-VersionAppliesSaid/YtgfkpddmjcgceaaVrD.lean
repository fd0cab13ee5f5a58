import Derived.Test.YtgfkpddmjcgceaaVrC
import Derived.Test.YtgfkpddmjcgceaaKaC
set_option linter.unusedVariables false
set_option linter.unusedSimpArgs false
namespace Go.Proofs.Ytgfkpddmjcgceaa.Kx
open Go.RowKit Go.Maps Go.Proofs.YtgfkpddmjcgceaaW.PrintWords

theorem Try.infoInt : (Try.prog.info? 3).map (fun i => (i.zero, i.size, i.bytes)) = some (some (.int .i64 0), 1, 8) := by kernel_rfl
def MadeI (xs : List Int) (w : World) (en : Ending) (w' : World) : Prop := ∃ v, en = .returned v ∧ (Kd.int .i64).R 3 w' w.heap.size (fun _ => True) v xs ∧ Below w.heap.size w w'
theorem take_map_succ {rs : List Rn} {k : Nat} (hk : k < rs.length) : (rs.take (k + 1)).map Rn.file = (rs.take k).map Rn.file ++ [(rs.getD k zRn).file] := by
  rw [List.take_succ_eq_append_getElem hk, List.map_append]
  simp [List.getD, hk]
set_option maxHeartbeats 1000000 in
set_option maxRecDepth 100000 in
theorem ref_files {w : World} {A : Option Addr} {n c : Nat} {rs : List Rn} (h : kRn.C w A n rs) (hn : n ≤ 1000000) :
    Calls Try.prog 35 #[.slice A n c] w (MadeI (rs.map Rn.file) w) := by
  have hl := h.1
  have H := Kp.mk h
  clear h
  go_enter Try.func35, Try.ntmps35
  go_wp2
  go_loopw [3, 4] (fun v i wr => ∃ k : Nat, k ≤ n ∧ i = .int .i64 k ∧ Kp ((Kd.int .i64).R 3 wr w.heap.size (fun _ => True) v ((rs.take k).map Rn.file)) ∧ Kp (Below w.heap.size w wr)) (fun _ i _ => n - (intOf i).toNat)
  case atStart => exact ⟨0, Nat.zero_le _, rfl, ⟨Kd.R_nil _ _ _ _ _⟩, ⟨Below.refl _ _⟩⟩
  case round =>
    obtain ⟨k, hk, rfl, HO, HB⟩ := hrel
    by_cases hlt : k < n
    · obtain ⟨ad, A3, c3, A4, c4, rfl, c1, _⟩ := rn_at (Kd.C_below H.out HB.out) k hlt
      have Hs := Kp.mk (take_map_succ (rs := rs) (k := k) (by omega))
      obtain ⟨y, hy⟩ : ∃ y, (rs.getD k zRn).file = y := ⟨_, rfl⟩
      rw [hy] at c1 Hs
      clear hy
      obtain ⟨ys, hys⟩ : ∃ ys, ys = (rs.take k).map Rn.file := ⟨_, rfl⟩
      have Hyl : Kp (ys.length = k) := ⟨by rw [hys, List.length_map, List.length_take]; omega⟩
      rw [← hys] at HO Hs
      clear hys
      have HWs := Kp.mk HB.out.size
      go_wp2_with (at_builtin; refine Kd.R_append (Kd.int .i64) (w0 := w) w.heap.size rfl (.tmp 11) (.tmp 17) 29 3 (.int .i64 0) 8 rfl Try.underlying29 Try.infoInt rfl (by decide) (by omega) _ ys y [.int .i64 y] (fun _ => True) (fun _ => False) rfl rfl rfl (fun _ hk => hk.elim) (fun _ _ => trivial) HO.out HB.out HWs.out (by rw [Hyl.out]; omega) ?_; intro v1 w1 hR hB hg hat; have HR := Kp.mk hR; have HB1 := Kp.mk hB; clear hR hB hg hat)
      go_roundw
      case rel => exact ⟨k + 1, by omega, by go_num, ⟨by rw [Hs.out]; exact HR.out⟩, HB1⟩
      case measure => simp [intOf]; omega
    · have hv : Kp ((rs.take k).map Rn.file = rs.map Rn.file) := ⟨by rw [List.take_of_length_le (by omega)]⟩
      rw [hv.out] at HO
      clear hv
      go_wp2
      go_ret
      exact ⟨_, rfl, HO.out, HB.out⟩
def OnceP (xs : List Int) : Prop := ∀ i, i < xs.length → xs.getD i 0 ∉ xs.take i
def OnceQ (xs : List Int) (w : World) (e : Ending) (w' : World) : Prop := ∃ b, e = .returned (.bool b) ∧ (b = true ↔ OnceP xs) ∧ Below w.heap.size w w'
set_option maxHeartbeats 1000000 in
set_option maxRecDepth 100000 in
theorem ref_once {w : World} {A : Option Addr} {c : Nat} {xs : List Int} (h : (Kd.int .i64).C w A xs.length xs) (hc : xs.length ≤ c) :
    Calls Try.prog 34 #[.slice A xs.length c] w (OnceQ xs w) := by
  have hm := h.2.1
  obtain ⟨n, hn⟩ : ∃ n, n = xs.length := ⟨_, rfl⟩
  have Hn := Kp.mk hn
  rw [← hn] at h hc hm ⊢
  have H := Kp.mk h
  clear h hn
  go_enter Try.func34, Try.ntmps34
  go_wp2
  go_loopw [3] (fun i wr => ∃ k : Nat, k ≤ n ∧ i = .int .i64 k ∧ Kp (∀ i, i < k → xs.getD i 0 ∉ xs.take i) ∧ Kp (Below w.heap.size w wr)) (fun i _ => n - (intOf i).toNat)
  case atStart => exact ⟨0, Nat.zero_le _, rfl, ⟨by omega⟩, ⟨Below.refl _ _⟩⟩
  case round =>
    obtain ⟨k, hk, rfl, HN, HB⟩ := hrel
    by_cases hlt : k < n
    · obtain ⟨ad, rfl, c1⟩ := ints_at (Kd.C_below H.out HB.out) k hlt
      have ht0 := Kd.C_take (m := k) (Kd.C_below (w1 := wr) (by have := H.out; rwa [Hn.out] at this) HB.out) (by have := Hn.out; omega)
      have hkl : (xs.take k).length = k := by rw [List.length_take]; have := Hn.out; omega
      rw [hkl] at ht0
      have Ht := Kp.mk ht0
      clear ht0 hkl
      obtain ⟨i0, hi0, _, _, _⟩ := info_parts Try.infoInt
      have hcut := cut_to (P := Try.prog) 29 3 .i64 Try.underlying29 hi0 (some ad) n c (k : Int) (by omega) (by omega) hc
      rw [Int.toNat_natCast] at hcut
      clear hi0
      by_cases e : xs.getD k 0 ∈ xs.take k
      · have hd : Kp (decide (xs.getD k 0 ∈ xs.take k) = true) := ⟨decide_eq_true e⟩
        have hv : Kp (false = true ↔ OnceP xs) := ⟨⟨(fun h => by cases h), fun h => absurd e (h k (by have := Hn.out; omega))⟩⟩
        obtain ⟨y, hy⟩ : ∃ y, xs.getD k 0 = y := ⟨_, rfl⟩
        rw [hy] at c1 hd
        clear hy e
        go_wp2_with fail
        go_quiet ((go_at_call 30; exact Calls.quiet_of_same ((ref_has y (Kd.C_drewN Ht.out _)).mono (fun e w' h => ⟨by rw [h.1, hd.out], h.2⟩))))
        go_wp2
        go_ret
        exact ⟨_, rfl, hv.out, pw_below_drewN HB.out _⟩
      · have hd : Kp (decide (xs.getD k 0 ∈ xs.take k) = false) := ⟨decide_eq_false e⟩
        have hv : Kp (∀ i, i < k + 1 → xs.getD i 0 ∉ xs.take i) := ⟨fun i hi => by
          by_cases hik : i = k
          · subst hik; exact e
          · exact HN.out i (by omega)⟩
        obtain ⟨y, hy⟩ : ∃ y, xs.getD k 0 = y := ⟨_, rfl⟩
        rw [hy] at c1 hd
        clear hy e
        go_wp2_with fail
        go_quiet ((go_at_call 30; exact Calls.quiet_of_same ((ref_has y (Kd.C_drewN Ht.out _)).mono (fun e w' h => ⟨by rw [h.1, hd.out], h.2⟩))))
        go_wp2
        go_roundw
        case rel => exact ⟨k + 1, by omega, by go_num, hv, ⟨pw_below_drewN HB.out _⟩⟩
        case measure => simp [intOf]; omega
    · have hv : Kp (∀ b : Bool, b = true → (b = true ↔ OnceP xs)) := ⟨fun b hb => ⟨fun _ i hi => HN.out i (by have := Hn.out; omega), fun _ => hb⟩⟩
      go_wp2
      go_ret
      exact ⟨true, rfl, hv.out true rfl, HB.out⟩
end Go.Proofs.Ytgfkpddmjcgceaa.Kx
