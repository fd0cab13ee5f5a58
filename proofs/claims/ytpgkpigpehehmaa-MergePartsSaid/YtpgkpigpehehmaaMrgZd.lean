import Derived.Test.YtpgkpigpehehmaaMrgZc
set_option linter.unusedVariables false
set_option linter.unusedSimpArgs false
namespace Go.Proofs.Ytpgkpigpehehmaa.Bas
open Go.RowKit Go.Maps Go.Deep

instance : Inhabited En := ⟨enD⟩
/-- A cell is told only where the address has no part. -/
theorem addr_plain {w : World} {a : Addr} {v : Value} (h : w.cell? (a.add 0) = some v) : ∃ b off, a = ⟨b, off, none⟩ := by
  obtain ⟨b, off, s⟩ := a
  cases s with
  | none => exact ⟨b, off, rfl⟩
  | some z =>
    exfalso
    have e : (⟨b, off, some z⟩ : Addr).add 0 = ⟨b, off, some z⟩ := rfl
    rw [e] at h
    unfold World.cell? at h
    split at h
    · simp at h
    · cases h
/-- Entries that came in: their lengths; and, where they are not too great, themselves. -/
theorem open_entries {H : Type} {enc : TypeId × Value → H} {w : World} {base : Nat} {spare : Nat → Bool} {held : Bool} {fuel : Nat} {cs : List Value} {x : DataW H × List MemPlace} (h : DataW.trod enc Try.prog w base spare held fuel 25 cs = some x) :
    ∃ A n c ls, cs = [.slice A n c] ∧ EsW w A n c ls ∧ (bigL ls = false → ∃ es, Es w A n c es) := by
  rcases open_slice Try.underlying25 h with ⟨rfl, _⟩ | ⟨a, len, cap, m, n, D, Pl, rfl, _, hl, hm, hmm, _, hel⟩
  · exact ⟨none, 0, 0, [], rfl, ⟨rfl, Nat.zero_le _, fun _ => ⟨rfl, rfl⟩, fun h => absurd h (Nat.lt_irrefl 0)⟩, fun _ => ⟨[], rfl, Nat.zero_le _, fun _ => ⟨rfl, rfl⟩, fun h => absurd h (Nat.lt_irrefl 0)⟩⟩
  · have hlm : len ≤ m := by rw [hmm]; split <;> omega
    have h4 : Try.prog.cellsOf 40 = 4 := by kernel_rfl
    rw [h4] at hel
    obtain ⟨F, hF⟩ := choose_lt (α := Nat × Nat) (n := len) (p := fun i p => ∃ A0 c0 s k A1 c1, (∀ j u, [Value.slice A0 p.1 c0, .int .u64 s, .int .i64 k, .slice A1 p.2 c1][j]? = some u → w.cell? (a.add (i * 4 + j)) = some u) ∧ (p.1 ≤ 300 → p.2 ≤ 300 → ∃ e : En, EnC w #[.slice A0 p.1 c0, .int .u64 s, .int .i64 k, .slice A1 p.2 c1] e)) (fun i hi => by
      obtain ⟨cs', h1, h2⟩ := hel i (by omega)
      obtain ⟨_, hlen, hcell⟩ := World.cells?_some h1
      obtain ⟨A0, n0, c0, s, k, A1, n1, c1, rfl, ho⟩ := open_entry h2
      refine ⟨(n0, n1), A0, c0, s, k, A1, c1, fun j u hu => ?_, fun q0 q1 => ?_⟩
      · have hj : j < 4 := (List.getElem?_eq_some_iff.1 hu).1
        have := hcell j hj
        rw [Go.Deep.add_add] at this
        rw [this, hu]
      · obtain ⟨e, he, _, _⟩ := ho q0 q1
        exact ⟨e, he⟩)
    have hpl : 0 < len → ∃ b off, a = ⟨b, off, none⟩ := fun hp => by
      obtain ⟨A0, c0, s, k, A1, c1, hc, _⟩ := hF 0 hp
      exact addr_plain (hc 0 _ rfl)
    have hget : ∀ i, i < len → ((List.range len).map F).getD i (0, 0) = F i := fun i hi => by simp [List.getD, hi]
    refine ⟨some a, len, cap, (List.range len).map F, rfl, ⟨by simp, by unfold maxLen at hm; omega, (fun e => by cases e), fun hp => ?_⟩, fun hb => ?_⟩
    · obtain ⟨b, off, rfl⟩ := hpl hp
      refine ⟨b, off, rfl, fun i hi => ?_⟩
      rw [hget i hi]
      obtain ⟨A0, c0, s, k, A1, c1, hc, _⟩ := hF i hi
      have z0 := hc 0 _ rfl
      have z3 := hc 3 _ rfl
      rw [Addr.add_lit] at z0 z3
      exact ⟨⟨A0, c0, z0⟩, A1, c1, by rw [show off + i * 4 + 3 = off + (i * 4 + 3) by omega]; exact z3⟩
    · unfold bigL at hb
      rw [Bool.or_eq_false_iff] at hb
      have h60 := of_decide_eq_false hb.2
      rw [List.length_map, List.length_range] at h60
      have hsm : ∀ i, i < len → (F i).1 ≤ 300 ∧ (F i).2 ≤ 300 := fun i hi => by
        have := (List.any_eq_false.1 hb.1) (F i) (List.mem_map.2 ⟨i, List.mem_range.2 hi, rfl⟩)
        simp at this
        omega
      obtain ⟨G, hG⟩ := choose_lt (α := En) (n := len) (p := fun i e => ∃ vs, EnC w vs e ∧ ∀ j v, vs[j]? = some v → w.cell? (a.add (i * 4 + j)) = some v) (fun i hi => by
        obtain ⟨A0, c0, s, k, A1, c1, hc, ho⟩ := hF i hi
        obtain ⟨e, he⟩ := ho (hsm i hi).1 (hsm i hi).2
        exact ⟨e, _, he, fun j v hv => hc j v (by simpa using hv)⟩)
      refine ⟨(List.range len).map G, by simp, by omega, (fun e => by cases e), fun hp => ?_⟩
      obtain ⟨b, off, rfl⟩ := hpl hp
      refine ⟨b, off, rfl, fun i hi => ?_⟩
      obtain ⟨vs, he, hc⟩ := hG i hi
      refine ⟨vs, by rw [show ((List.range len).map G).getD i enD = G i by simp [List.getD, hi]]; exact he, fun j v hv => ?_⟩
      have := hc j v hv
      rwa [Addr.add_lit, ← Nat.add_assoc] at this
end Go.Proofs.Ytpgkpigpehehmaa.Bas
