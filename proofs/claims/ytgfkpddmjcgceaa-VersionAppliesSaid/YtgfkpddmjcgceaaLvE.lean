import Derived.Test.YtgfkpddmjcgceaaVrC
import Derived.Test.YtgfkpddmjcgceaaKaE
set_option linter.unusedVariables false
set_option linter.unusedSimpArgs false
namespace Go.Proofs.Ytgfkpddmjcgceaa.Kx
open Go.RowKit Go.Maps Go.Proofs.YtgfkpddmjcgceaaW.PrintWords

theorem ints_eq {xs ys : List Int} (hl : xs.length = ys.length) (h : ∀ i, i < xs.length → xs.getD i 0 = ys.getD i 0) : xs = ys := by
  apply List.ext_getElem hl
  intro i h1 h2
  have := h i h1
  simpa [List.getD, h1, h2] using this
def SameQ (P : Prop) (w : World) (e : Ending) (w' : World) : Prop := ∃ b : Bool, e = .returned (.bool b) ∧ (b = true ↔ P) ∧ Below w.heap.size w w'
set_option maxHeartbeats 1000000 in
set_option maxRecDepth 100000 in
theorem same_ints {w : World} {A A' : Option Addr} {n c n' c' : Nat} {xs ys : List Int} (h : (Kd.int .i64).C w A n xs) (h' : (Kd.int .i64).C w A' n' ys) :
    Calls Try.prog 18 #[.slice A n c, .slice A' n' c'] w (SameQ (xs = ys) w) := by
  have hl := Kp.mk h.1
  have hl' := Kp.mk h'.1
  have hm := h.2.1
  have hm' := h'.2.1
  have H := Kp.mk h
  have H' := Kp.mk h'
  clear h h'
  by_cases hn : n = n'
  · subst hn
    go_enter Try.func18, Try.ntmps18
    go_wp2_with fail
    go_loopw [5] (fun i wr => ∃ k : Nat, k ≤ n ∧ i = .int .i64 k ∧ Kp (∀ i, i < k → xs.getD i 0 = ys.getD i 0) ∧ Kp (Below w.heap.size w wr)) (fun i _ => n - (intOf i).toNat)
    case atStart => exact ⟨0, Nat.zero_le _, rfl, ⟨by omega⟩, ⟨Below.refl _ _⟩⟩
    case round =>
      obtain ⟨k, hk, rfl, HN, HB⟩ := hrel
      by_cases hlt : k < n
      · obtain ⟨ad, rfl, c1⟩ := ints_at (Kd.C_below H.out HB.out) k hlt
        obtain ⟨ad', rfl, c2⟩ := ints_at (Kd.C_below H'.out HB.out) k hlt
        obtain ⟨x, hx⟩ : ∃ x, xs.getD k 0 = x := ⟨_, rfl⟩
        obtain ⟨y, hy⟩ : ∃ y, ys.getD k 0 = y := ⟨_, rfl⟩
        rw [hx] at c1
        rw [hy] at c2
        have Hx := Kp.mk hx
        have Hy := Kp.mk hy
        clear hx hy
        by_cases he : x = y
        · subst he
          have Hn : Kp (∀ i, i < k + 1 → xs.getD i 0 = ys.getD i 0) := ⟨fun i hi => by
            by_cases hik : i = k
            · subst hik; rw [Hx.out, Hy.out]
            · exact HN.out i (by omega)⟩
          go_wp2_with fail
          go_quiet (fail)
          go_wp2
          go_roundw
          case rel => exact ⟨k + 1, by omega, by go_num, Hn, ⟨pw_below_drewN HB.out _⟩⟩
          case measure => simp [intOf]; omega
        · have hne : (x != y) = true := by simpa using he
          have Hv : Kp (xs ≠ ys) := ⟨fun e => he (by rw [← Hx.out, ← Hy.out, e])⟩
          clear he
          go_wp2_with fail
          go_quiet (fail)
          go_wp2
          go_ret
          exact ⟨false, rfl, ⟨(fun h => by cases h), fun h => absurd h Hv.out⟩, pw_below_drewN HB.out _⟩
      · have Hv : Kp (xs = ys) := ⟨ints_eq (by rw [hl.out, hl'.out]) (fun i hi => HN.out i (by have := hl.out; omega))⟩
        go_wp2
        go_ret
        exact ⟨true, rfl, ⟨fun _ => Hv.out, fun _ => rfl⟩, HB.out⟩
  · have Hv : Kp (xs ≠ ys) := ⟨fun e => hn (by rw [← hl.out, ← hl'.out, e])⟩
    have h1 : (n == n') = false := by simpa using hn
    have h2 : ((n : Int) != (n' : Int)) = true := by simpa using (by omega : ¬ (n : Int) = (n' : Int))
    go_enter Try.func18, Try.ntmps18
    go_wp2_with fail
    all_goals
      go_ret
      exact ⟨false, rfl, ⟨(fun h => by cases h), fun h => absurd h Hv.out⟩, Below.refl _ _⟩
end Go.Proofs.Ytgfkpddmjcgceaa.Kx
