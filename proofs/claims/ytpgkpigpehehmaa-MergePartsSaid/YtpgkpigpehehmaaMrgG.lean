import Derived.Test.YtpgkpigpehehmaaMrgF
set_option linter.unusedVariables false
set_option linter.unusedSimpArgs false
namespace Go.Proofs.Ytpgkpigpehehmaa.Bas
open Go.RowKit Go.Maps Go.Sort Go.Shelf

abbrev Pr := Array Value × En
def flat4 (ps : List Pr) : List Value := (ps.map fun p => p.1.toList).flatten
theorem enC_size {w : World} {vs : Array Value} {e : En} (h : EnC w vs e) : vs.size = 4 := by
  obtain ⟨A, n, c, A', n', c', rfl, _⟩ := h
  rfl
theorem flat4_length {w : World} : ∀ {ps : List Pr}, (∀ p ∈ ps, EnC w p.1 p.2) → (flat4 ps).length = ps.length * 4
  | [], _ => rfl
  | p :: r, h => by
    have ih := flat4_length (ps := r) (fun q hq => h q (List.mem_cons_of_mem _ hq))
    have h0 := enC_size (h p (List.mem_cons_self ..))
    unfold flat4 at ih ⊢
    rw [List.map_cons, List.flatten_cons, List.length_append, ih, Array.length_toList, h0, List.length_cons]
    omega
theorem flat4_append (a b : List Pr) : flat4 (a ++ b) = flat4 a ++ flat4 b := by simp [flat4]
/-- A read slice of entries as cells in a row. -/
theorem Es.flat {w : World} {b off : Nat} : ∀ {es : List En} (k : Nat),
    (∀ i, i < es.length → ∃ vs, EnC w vs (es.getD i enD) ∧ ∀ j v, vs[j]? = some v → w.cell? ⟨b, off + (k + i) * 4 + j, none⟩ = some v) →
    ∃ ps : List Pr, ps.map (·.2) = es ∧ (∀ p ∈ ps, EnC w p.1 p.2) ∧ ∀ j u, (flat4 ps)[j]? = some u → w.cell? ⟨b, off + k * 4 + j, none⟩ = some u
  | [], k, _ => ⟨[], rfl, (fun p h => by cases h), (fun j u h => by simp [flat4] at h)⟩
  | e :: r, k, h => by
    obtain ⟨vs, h1, h2⟩ := h 0 (by simp)
    obtain ⟨ps, q1, q2, q3⟩ := Es.flat (es := r) (k + 1) (fun i hi => by
      obtain ⟨us, u1, u2⟩ := h (i + 1) (by simpa using hi)
      refine ⟨us, by simpa [List.getD] using u1, fun j v hv => ?_⟩
      have := u2 j v hv
      rwa [show k + 1 + i = k + (i + 1) by omega])
    refine ⟨(vs, e) :: ps, by rw [List.map_cons, q1], ?_, ?_⟩
    · intro p hp
      rcases List.mem_cons.1 hp with rfl | hp
      · simpa [List.getD] using h1
      · exact q2 p hp
    · intro j u hu
      have h4 := enC_size h1
      have hl : vs.toList.length = 4 := by rw [Array.length_toList]; exact h4
      unfold flat4 at hu q3
      rw [List.map_cons, List.flatten_cons] at hu
      by_cases hj : j < 4
      · rw [List.getElem?_append_left (by simpa [hl] using hj)] at hu
        have := h2 j u (by simpa using hu)
        simpa using this
      · rw [List.getElem?_append_right (by simp [h4]; omega)] at hu
        simp only [hl] at hu
        have := q3 (j - 4) u hu
        rwa [show off + (k + 1) * 4 + (j - 4) = off + k * 4 + j by omega] at this
theorem Es.some {w : World} {A : Option Addr} {n c : Nat} {es : List En} (h : Es w A n c es) (hn : 0 < n) :
    ∃ b off ps, A = some ⟨b, off, none⟩ ∧ ps.map (·.2) = es ∧ (∀ p ∈ ps, EnC w p.1 p.2) ∧ ∀ j u, (flat4 ps)[j]? = some u → w.cell? ((⟨b, off, none⟩ : Addr).add j) = some u := by
  obtain ⟨b, off, e, hc⟩ := h.cell hn
  obtain ⟨ps, h1, h2, h3⟩ := Es.flat (w := w) (b := b) (off := off) (es := es) 0 (fun i hi => by
    rw [h.len] at hi
    obtain ⟨vs, u1, u2⟩ := hc i hi
    exact ⟨vs, u1, fun j v hv => by have := u2 j v hv; rwa [Nat.zero_add]⟩)
  refine ⟨b, off, ps, e, h1, h2, fun j u hu => ?_⟩
  have := h3 j u hu
  rw [Nat.zero_mul, Nat.add_zero] at this
  rwa [Addr.add_lit]
theorem flat4_one {w : World} {ps : List Pr} (h : ∀ p ∈ ps, EnC w p.1 p.2) : ∀ u ∈ flat4 ps, u.oneCell' = true := by
  intro u hu
  unfold flat4 at hu
  obtain ⟨l, hl, hu⟩ := List.mem_flatten.1 hu
  obtain ⟨p, hp, rfl⟩ := List.mem_map.1 hl
  obtain ⟨A, n, c, A', n', c', hv, _⟩ := h p hp
  rw [hv] at hu
  simp at hu
  rcases hu with rfl | rfl | rfl | rfl <;> rfl
theorem Try.infoEn : (Try.prog.info? 40).map (fun i => (i.zero, i.size, i.bytes)) = some (some (.agg #[.slice none 0 0, .int .u64 0, .int .i64 0, .slice none 0 0]), 4, 64) := by kernel_rfl
/-- append(all, x...): all the call's own or nil, x whatever is read. -/
theorem wpList_append_es {w0 w : World} {ops : Array Oper} {rest : List Oper} {o : Oper} {a : Act} {Q : Exit → Act → World → Prop} (hgd : o.guard = none) (s x : Operand) (base : Nat)
    (ho : o.op = .call { callee := .builtin .append, args := #[s, x], argTypes := #[25, 25] })
    (v : Value) (n m c : Nat) (xs : List Value) (es : List En) (A : Option Addr) (hs : a.eval s = v) (hx : a.eval x = .slice A m c) (hown : w.ownsRow base 40 4 v n xs) (hr : Es w0 A m c es) (hb0 : Below w0.heap.size w0 w)
    (hl : n + m ≤ 2000000) (hbase : base ≤ w.heap.size)
    (h : ∀ v' w' ps, ps.map (·.2) = es → (∀ p ∈ ps, EnC w0 p.1 p.2) → w'.ownsRow base 40 4 v' (n + m) (xs ++ flat4 ps) → w.grownBy w' v.ownBlock → (v'.ownBlock = v.ownBlock ∨ v'.ownBlock = some w.heap.size) → wpList Try.prog ops Q rest (a.put o.dst v') w') :
    wpList Try.prog ops Q (o :: rest) a w := by
  obtain ⟨i0, hi, hz0, hz1, hz2⟩ := info_parts Try.infoEn
  rcases Nat.eq_zero_or_pos m with rfl | hm
  · have he : es = [] := List.eq_nil_of_length_eq_zero hr.len
    subst he
    cases A with
    | none =>
      obtain ⟨_, rfl⟩ := hr.nil rfl
      refine wpList_append_own_none hgd s x _ ho base _ i0 4 Try.underlying25 hi v n xs hs hown hx ?_
      exact h v w [] rfl (fun p hp => by cases hp) (by simpa [flat4] using hown) (World.grownBy.refl _ _) (.inl rfl)
    | some ad =>
      refine wpList_append_own_at w hgd s x _ ho base _ i0 _ 4 64 Try.underlying25 hi hz0 hz1 hz2 rfl (by omega) v n xs hs hown ad 0 c [] hx rfl (fun j u hu => by simp at hu) (fun u hu => by cases hu) (by unfold maxLen; omega) (by omega) hbase ?_
      intro v' w' h1 h2 _ h4
      exact h v' w' [] rfl (fun p hp => by cases hp) (by simpa [flat4] using h1) h2 h4
  · obtain ⟨b, off, ps, rfl, q1, q2, q3⟩ := hr.some hm
    have hlen : (flat4 ps).length = m * 4 := by rw [flat4_length q2, ← hr.len, ← q1, List.length_map]
    refine wpList_append_own_at w hgd s x _ ho base _ i0 _ 4 64 Try.underlying25 hi hz0 hz1 hz2 rfl (by omega) v n xs hs hown _ m c (flat4 ps) hx hlen (fun j u hu => cell_kept hb0 (q3 j u hu)) (flat4_one q2) (by unfold maxLen; omega) (by omega) hbase ?_
    intro v' w' h1 h2 _ h4
    exact h v' w' ps q1 q2 h1 h2 h4
end Go.Proofs.Ytpgkpigpehehmaa.Bas
