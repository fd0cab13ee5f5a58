import Derived.Test.YtpgkpigpehehmaaSymB
set_option linter.unusedVariables false
set_option linter.unusedSimpArgs false
namespace Go.Proofs.Ytpgkpigpehehmaa.Bas
open Go.RowKit Go.Maps Go.Sort Go.Shelf Go.Lib

theorem get_size {α : Type} [Inhabited α] {d : Array α} {n : Nat} (h : d.size = n) : n = d.size := h.symm
set_option maxHeartbeats 4000000 in
set_option maxRecDepth 1000000 in
theorem rotate_any {α : Type} [Inhabited α] {enc : α → List Value} {k : Nat} (hk : k = 4) {blk off cap : Nat} {d0 d : Array α} {w0 w : World} (g : Nat) (a m b : Nat)
    (R : RowK enc k w0 blk off d0) (hs : d0.size = d.size) (S : SWK enc k w0 blk off d w) (ham : a < m) (hmb : m < b) (hb : b ≤ d.size) (hsz : d.size ≤ 1000000) :
    Calls Try.prog 37 #[.slice (some ⟨blk, off, none⟩) d.size cap, .int .i64 a, .int .i64 m, .int .i64 b, .func (.func g) #[] #[]] w (RowTo enc k w0 blk off d.size (rotF (get d) a m b)) := by
  have HC : Kp (∀ (W : World) (dk : Array α) (x y n : Nat), dk.size = d.size → SWK enc k w0 blk off dk W → x + n ≤ y → y + n ≤ d.size →
      Calls Try.prog 38 #[.slice (some ⟨blk, off, none⟩) d.size cap, .int .i64 x, .int .i64 y, .int .i64 n, .func (.func g) #[] #[]] W (RowTo enc k w0 blk off d.size (swpF (get dk) x y n))) := ⟨fun W dk x y n h1 h2 h3 h4 => by
    have := swap_range hk (cap := cap) g x y n R (hs.trans h1.symm) h2 h3 (by omega) (by omega)
    rwa [h1] at this⟩
  have S0 : Aside (SWK enc k w0 blk off d w) := S
  obtain ⟨i0, hi0⟩ : ∃ i0, m = a + i0 := ⟨m - a, by omega⟩
  obtain ⟨j0, hj0⟩ : ∃ j0, b = m + j0 := ⟨b - m, by omega⟩
  have r1 : IntKind.i64.wrap ((m : Int) - (a : Int)) = (i0 : Int) := by rw [IntKind.wrap_i64]; omega
  have r2 : IntKind.i64.wrap ((b : Int) - (m : Int)) = (j0 : Int) := by rw [IntKind.wrap_i64]; omega
  have Hij := Kp.mk (And.intro hi0 hj0)
  clear S hk hi0 hj0
  obtain ⟨N, hN⟩ : ∃ N, N = d.size := ⟨_, rfl⟩
  have HN := Kp.mk hN
  rw [← hN] at HC hb hsz ⊢
  clear hN hs R
  go_enter Try.func37, Try.ntmps37
  go_wp2_with fail
  go_loopw [10, 11] (fun s t wr => ∃ (i j : Nat) (dk : Array α), s = .int .i64 i ∧ t = .int .i64 j ∧ 0 < i ∧ 0 < j ∧ i ≤ i0 ∧ j ≤ j0 ∧ Kp (dk.size = N) ∧ Aside (SWK enc k w0 blk off dk wr) ∧ Aside (rotF (get dk) (m - i) m (m + j) = rotF (get d) a m b)) (fun s t _ => (intOf s).toNat + (intOf t).toNat)
  case atStart => exact ⟨i0, j0, d, rfl, rfl, by have := Hij.out; omega, by have := Hij.out; omega, Nat.le_refl _, Nat.le_refl _, ⟨HN.out.symm⟩, S0, by show rotF _ _ _ _ = _; rw [show m - i0 = a by have := Hij.out; omega, ← Hij.out.2]⟩
  case round =>
    clear S0
    obtain ⟨i, j, dk, rfl, rfl, hi, hj, hii, hjj, hds, S1, HG⟩ := hrel
    have him : i ≤ m := by have := Hij.out; omega
    have hjm : m + j ≤ N := by have := Hij.out; omega
    by_cases hij : i = j
    · subst hij
      have hcc := HC.out _ dk (m - i) m i hds.out S1.out (by omega) (by omega)
      rw [show ((m - i : Nat) : Int) = (m : Int) - (i : Int) by omega] at hcc
      have Hcc := Kp.mk hcc
      have HR : Kp (swpF (get dk) (m - i) m i = rotF (get d) a m b) := ⟨by rw [rot_even _ him]; exact HG.out⟩
      have rw1 : IntKind.i64.wrap ((m : Int) - (i : Int)) = (m : Int) - (i : Int) := by rw [IntKind.wrap_i64]; omega
      clear hcc
      go_wp2_with (go_at_call 38; refine Hcc.out.mono ?_; rintro e w2 ⟨rfl, dn, h1, h2, h3⟩)
      go_end0
      exact ⟨rfl, dn, h1, h2, h3.trans HR.out⟩
    · have hne : ((i : Int) != (j : Int)) = true := by rw [bne_iff_ne]; omega
      by_cases hlt : j < i
      · have hltz : (j : Int) < (i : Int) := by omega
        have hcc := HC.out _ dk (m - i) m j hds.out S1.out (by omega) (by omega)
        rw [show ((m - i : Nat) : Int) = (m : Int) - (i : Int) by omega] at hcc
        have Hcc := Kp.mk hcc
        have HR : Kp (rotF (swpF (get dk) (m - i) m j) (m - (i - j)) m (m + j) = rotF (get d) a m b) := ⟨by rw [rot_left _ him hj hlt]; exact HG.out⟩
        have rw1 : IntKind.i64.wrap ((m : Int) - (i : Int)) = (m : Int) - (i : Int) := by rw [IntKind.wrap_i64]; omega
        have rw2 : IntKind.i64.wrap ((i : Int) - (j : Int)) = (i : Int) - (j : Int) := by rw [IntKind.wrap_i64]; omega
        clear hcc hij
        go_wp2_with (go_at_call 38; refine Hcc.out.mono ?_; rintro e w2 ⟨rfl, dn, h1, h2, h3⟩)
        go_roundw
        case rel => exact ⟨i - j, j, dn, by first | go_num | (congr 1; omega), rfl, by omega, hj, by omega, hjj, ⟨h1⟩, h2, by show rotF _ _ _ _ = _; rw [h3]; exact HR.out⟩
        case measure => simp [intOf]; omega
      · have hltz : ¬ (j : Int) < (i : Int) := by omega
        have hcc := HC.out _ dk (m - i) (m + j - i) i hds.out S1.out (by omega) (by omega)
        rw [show ((m - i : Nat) : Int) = (m : Int) - (i : Int) by omega, show ((m + j - i : Nat) : Int) = (m : Int) + (j : Int) - (i : Int) by omega] at hcc
        have Hcc := Kp.mk hcc
        have HR : Kp (rotF (swpF (get dk) (m - i) (m + j - i) i) (m - i) m (m + (j - i)) = rotF (get d) a m b) := ⟨by rw [rot_right _ him hi (by omega)]; exact HG.out⟩
        have rw1 : IntKind.i64.wrap ((m : Int) - (i : Int)) = (m : Int) - (i : Int) := by rw [IntKind.wrap_i64]; omega
        have rw2 : IntKind.i64.wrap ((m : Int) + (j : Int)) = (m : Int) + (j : Int) := by rw [IntKind.wrap_i64]; omega
        have rw3 : IntKind.i64.wrap ((m : Int) + (j : Int) - (i : Int)) = (m : Int) + (j : Int) - (i : Int) := by rw [IntKind.wrap_i64]; omega
        have rw4 : IntKind.i64.wrap ((j : Int) - (i : Int)) = (j : Int) - (i : Int) := by rw [IntKind.wrap_i64]; omega
        clear hcc
        go_wp2_with (go_at_call 38; refine Hcc.out.mono ?_; rintro e w2 ⟨rfl, dn, h1, h2, h3⟩)
        go_roundw
        case rel => exact ⟨i, j - i, dn, rfl, by first | go_num | (congr 1; omega), hi, by omega, hii, by omega, ⟨h1⟩, h2, by show rotF _ _ _ _ = _; rw [h3]; exact HR.out⟩
        case measure => simp [intOf]; omega
end Go.Proofs.Ytpgkpigpehehmaa.Bas
