import Derived.Test.YtgfkpddmjcgceaaVrA
set_option linter.unusedVariables false
set_option linter.unusedSimpArgs false
namespace Go.Proofs.Ytgfkpddmjcgceaa.Kx
open Go.RowKit Go.Maps Go.Proofs.YtgfkpddmjcgceaaW.PrintWords

theorem take_mem_succ {xs : List Int} {k : Nat} (hk : k < xs.length) (x : Int) : x ∈ xs.take (k + 1) ↔ x ∈ xs.take k ∨ xs.getD k 0 = x := by
  rw [List.take_succ_eq_append_getElem hk, List.mem_append, List.mem_singleton]
  have : xs.getD k 0 = xs[k] := by simp [List.getD, hk]
  rw [this]
  constructor <;> (rintro (h | h); exact .inl h; exact .inr h.symm)
set_option maxHeartbeats 1000000 in
set_option maxRecDepth 100000 in
theorem ref_has {w : World} {A : Option Addr} {n c : Nat} {xs : List Int} (x : Int) (h : (Kd.int .i64).C w A n xs) :
    Calls Try.prog 30 #[.slice A n c, .int .i64 x] w fun e w' => e = .returned (.bool (decide (x ∈ xs))) ∧ w' = w := by
  have hl := h.1
  have hm := h.2.1
  have H := Kp.mk h
  clear h
  go_enter Try.func30, Try.ntmps30
  go_wp2
  go_loop [5] (fun i => ∃ k : Nat, k ≤ n ∧ i = .int .i64 k ∧ Kp (x ∉ xs.take k)) (fun i => n - (intOf i).toNat)
  case atStart => exact ⟨0, Nat.zero_le _, rfl, ⟨by simp⟩⟩
  case round =>
    obtain ⟨k, hk, rfl, HN⟩ := hrel
    by_cases hlt : k < n
    · obtain ⟨ad, rfl, c1⟩ := ints_at H.out k hlt
      have hs := take_mem_succ (xs := xs) (k := k) (by omega) x
      obtain ⟨y, hy⟩ : ∃ y, xs.getD k 0 = y := ⟨_, rfl⟩
      rw [hy] at c1 hs
      have Hs := Kp.mk hs
      have Hy := Kp.mk hy
      clear hs hy
      by_cases e : y = x
      · have hv : Kp (true = decide (x ∈ xs)) := ⟨(decide_eq_true (List.mem_of_mem_take (Hs.out.2 (.inr e)))).symm⟩
        have he : (y == x) = true := by simpa using e
        clear e
        go_wp2
        go_ret
        exact ⟨ret_bool hv.out, rfl⟩
      · have hv : Kp (x ∉ xs.take (k + 1)) := ⟨fun h => (Hs.out.1 h).elim HN.out e⟩
        have he : (y == x) = false := by simpa using e
        clear e
        go_wp2
        go_round
        case rel => exact ⟨k + 1, by omega, by go_num, hv⟩
        case measure => simp [intOf]; omega
    · have hv : Kp (false = decide (x ∈ xs)) := ⟨(decide_eq_false (by have := HN.out; rwa [List.take_of_length_le (by omega)] at this)).symm⟩
      go_wp2
      go_ret
      exact ⟨ret_bool hv.out, rfl⟩

/-! ### the first place of an element with a mark; -1: there is none -/
def firstI {α : Type} (p : α → Prop) (l : List α) (z : α) (r : Int) : Prop := (r = -1 ∧ ∀ j, j < l.length → ¬ p (l.getD j z)) ∨ ∃ j : Nat, r = j ∧ j < l.length ∧ p (l.getD j z) ∧ ∀ i, i < j → ¬ p (l.getD i z)
def PlaceP (rs : List Rn) (f : Int) (w : World) (e : Ending) (w' : World) : Prop := ∃ r : Int, e = .returned (.int .i64 r) ∧ firstI (fun a : Rn => a.file = f) rs zRn r ∧ w' = w
set_option maxHeartbeats 1000000 in
set_option maxRecDepth 100000 in
theorem ref_place {w : World} {A : Option Addr} {n c : Nat} {rs : List Rn} (f : Int) (h : kRn.C w A n rs) :
    Calls Try.prog 29 #[.slice A n c, .int .i64 f] w (PlaceP rs f w) := by
  have hl := h.1
  have hm := h.2.1
  have H := Kp.mk h
  clear h
  go_enter Try.func29, Try.ntmps29
  go_wp2
  go_loop [5] (fun i => ∃ k : Nat, k ≤ n ∧ i = .int .i64 k ∧ Kp (∀ j, j < k → ¬ (rs.getD j zRn).file = f)) (fun i => n - (intOf i).toNat)
  case atStart => exact ⟨0, Nat.zero_le _, rfl, ⟨by omega⟩⟩
  case round =>
    obtain ⟨k, hk, rfl, HN⟩ := hrel
    by_cases hlt : k < n
    · obtain ⟨ad, A3, c3, A4, c4, rfl, c1, _⟩ := rn_at H.out k hlt
      obtain ⟨y, hy⟩ : ∃ y, (rs.getD k zRn).file = y := ⟨_, rfl⟩
      rw [hy] at c1
      have Hy := Kp.mk hy
      clear hy
      by_cases e : y = f
      · have hv : Kp (firstI (fun a : Rn => a.file = f) rs zRn k) := ⟨.inr ⟨k, rfl, by omega, Hy.out.trans e, HN.out⟩⟩
        have he : (y == f) = true := by simpa using e
        clear e
        go_wp2
        go_ret
        exact ⟨_, rfl, hv.out, rfl⟩
      · have hv : Kp (∀ j, j < k + 1 → ¬ (rs.getD j zRn).file = f) := ⟨fun j hj => by
          by_cases hjk : j = k
          · subst hjk; rw [Hy.out]; exact e
          · exact HN.out j (by omega)⟩
        have he : (y == f) = false := by simpa using e
        clear e
        go_wp2
        go_round
        case rel => exact ⟨k + 1, by omega, by go_num, hv⟩
        case measure => simp [intOf]; omega
    · have hv : Kp (firstI (fun a : Rn => a.file = f) rs zRn (-1)) := ⟨.inl ⟨rfl, fun j hj => HN.out j (by omega)⟩⟩
      go_wp2
      go_ret
      exact ⟨_, rfl, hv.out, rfl⟩
end Go.Proofs.Ytgfkpddmjcgceaa.Kx
