import Derived.Test.YtgfkpddmjcgceaaLvG
import Derived.Test.YtgfkpddmjcgceaaVrQ
set_option linter.unusedVariables false
set_option linter.unusedSimpArgs false
namespace Go.Proofs.Ytgfkpddmjcgceaa.Kx
open Go.RowKit Go.Maps Go.Proofs.YtgfkpddmjcgceaaW.PrintWords

/-- No great list of runs. -/
def Small (rs : List Rn) : Prop := ∀ i, i < rs.length → (rs.getD i zRn).first.length ≤ 300 ∧ (rs.getD i zRn).last.length ≤ 300
def BigQ (rs : List Rn) (m : Nat) (w : World) (e : Ending) (w' : World) : Prop := ∃ b : Bool, e = .returned (.bool b) ∧ (b = false → Small rs ∧ rs.length ≤ 110 ∧ m ≤ 110) ∧ Below w.heap.size w w'
set_option maxHeartbeats 4000000 in
set_option maxRecDepth 100000 in
theorem big_edit {w : World} {A A' : Option Addr} {n m c c' : Nat} {rs : List Rn} (nx lg sq : Int) (h : kRn.C w A n rs) (hm : m ≤ 9223372036854775807) :
    Calls Try.prog 9 #[.agg #[.slice A n c, .slice A' m c', .int .i64 nx, .int .i64 lg, .int .u64 sq]] w (BigQ rs m w) := by
  have hn := h.2.1
  have Hl := Kp.mk h.1
  have H := Kp.mk h
  clear h
  go_enter Try.func9, Try.ntmps9
  go_wp2_with fail
  have HB := Kp.mk (alloc_below w (.cells #[.slice A n c, .slice A' m c', .int .i64 nx, .int .i64 lg, .int .u64 sq] 31))
  go_loop [3] (fun i => ∃ k : Nat, k ≤ n ∧ i = .int .i64 k ∧ Kp (∀ i, i < k → (rs.getD i zRn).first.length ≤ 300 ∧ (rs.getD i zRn).last.length ≤ 300)) (fun i => n - (intOf i).toNat)
  case atStart => exact ⟨0, Nat.zero_le _, rfl, ⟨by omega⟩⟩
  case round =>
    obtain ⟨k, hk, rfl, HN⟩ := hrel
    by_cases hlt : k < n
    · obtain ⟨ad, A3, c3, A4, c4, rfl, d0, d1, d2, d3, d4, d5, l3, g3, l4, g4⟩ := rn_at (Kd.C_below H.out HB.out) k hlt
      have hki : (k : Int) < (n : Int) := by omega
      obtain ⟨r, hr⟩ : ∃ r, rs.getD k zRn = r := ⟨_, rfl⟩
      rw [hr] at d0 d1 d2 d3 d4 d5 g3 g4
      have m3 := g3.2.1
      have m4 := g4.2.1
      clear g3 g4 l3 l4
      have Hr := Kp.mk hr
      clear hr
      by_cases h1 : 300 < r.first.length
      · have h1i : decide ((300 : Int) < (r.first.length : Int)) = true := decide_eq_true (by omega)
        go_wp2_with fail
        go_ret
        exact ⟨true, rfl, (fun h => by cases h), HB.out⟩
      · have h1i : decide ((300 : Int) < (r.first.length : Int)) = false := decide_eq_false (by omega)
        by_cases h2 : 300 < r.last.length
        · have h2i : decide ((300 : Int) < (r.last.length : Int)) = true := decide_eq_true (by omega)
          go_wp2_with fail
          go_ret
          exact ⟨true, rfl, (fun h => by cases h), HB.out⟩
        · have h2i : decide ((300 : Int) < (r.last.length : Int)) = false := decide_eq_false (by omega)
          have Hn : Kp (∀ i, i < k + 1 → (rs.getD i zRn).first.length ≤ 300 ∧ (rs.getD i zRn).last.length ≤ 300) := ⟨fun i hi => by
            by_cases hik : i = k
            · subst hik; rw [Hr.out]; omega
            · exact HN.out i (by omega)⟩
          go_wp2_with fail
          go_round
          case rel => exact ⟨k + 1, by omega, by go_num, Hn⟩
          case measure => simp [intOf]; omega
    · have HS : Kp (Small rs) := ⟨fun i hi => HN.out i (by have := Hl.out; omega)⟩
      by_cases h1 : 110 < n
      · have h1i : decide ((110 : Int) < (n : Int)) = true := decide_eq_true (by omega)
        go_wp2_with fail
        go_ret
        exact ⟨true, rfl, (fun h => by cases h), HB.out⟩
      · have h1i : decide ((110 : Int) < (n : Int)) = false := decide_eq_false (by omega)
        by_cases h2 : 110 < m
        · have h2i : decide ((110 : Int) < (m : Int)) = true := decide_eq_true (by omega)
          go_wp2_with fail
          go_ret
          exact ⟨true, rfl, (fun h => by cases h), HB.out⟩
        · have h2i : decide ((110 : Int) < (m : Int)) = false := decide_eq_false (by omega)
          go_wp2_with fail
          go_ret
          exact ⟨false, rfl, fun _ => ⟨HS.out, by have := Hl.out; omega, by omega⟩, HB.out⟩
set_option maxHeartbeats 1000000 in
set_option maxRecDepth 100000 in
theorem big_version {w : World} {A : Option Addr} {n c : Nat} {rs : List Rn} (nx lg sq : Int) (h : kRn.C w A n rs) :
    Calls Try.prog 15 #[.agg #[.slice A n c, .int .i64 nx, .int .i64 lg, .int .u64 sq]] w (BigQ rs 0 w) := by
  have H := Kp.mk h
  clear h
  go_enter Try.func15, Try.ntmps15
  go_wp2_with fail
  refine (big_edit 0 0 0 (Kd.C_alloc H.out _) (by omega)).mono ?_
  rintro e w1 ⟨b, rfl, hb, hb1⟩
  have Hb := Kp.mk hb
  have HB := Kp.mk ((alloc_below w (.cells #[.slice A n c, .int .i64 nx, .int .i64 lg, .int .u64 sq] 27)).trans (hb1.mono (by simp)))
  clear hb hb1
  go_wp2_with fail
  go_ret
  exact ⟨b, rfl, Hb.out, HB.out⟩
end Go.Proofs.Ytgfkpddmjcgceaa.Kx
