import Derived.Test.YtinffeffffligaaBasA
set_option linter.unusedVariables false
set_option linter.unusedSimpArgs false
namespace Go.Proofs.Ytinffeffffligaa.Bas
open Go.RowKit Go.Maps
/-- append(v, src...): v the call's own or nil, src whatever is read. -/
theorem wpList_append_rd {P : Program} (w : World) {ops : Array Oper} {rest : List Oper} {o : Oper} {a : Act} {Q : Exit → Act → World → Prop} (hgd : o.guard = none) (s x : Operand) (t e : TypeId) (k : IntKind) (bytes base : Nat)
    (ho : o.op = .call { callee := .builtin .append, args := #[s, x], argTypes := #[t, t] })
    (ht : P.underlying t = some (.slice e)) (hinfo : (P.info? e).map (fun i => (i.zero, i.size, i.bytes)) = some (some (.int k 0), 1, bytes)) (hb0 : 0 < bytes)
    (v : Value) (n m c : Nat) (xs ys : List Int) (A : Option Addr) (hs : a.eval s = v) (hx : a.eval x = .slice A m c) (hown : w.ownsRow base e 1 v n (nums k xs)) (hr : Rd w k A m c ys)
    (hl : (n + m) * bytes ≤ 140737488355328) (hbase : base ≤ w.heap.size)
    (h : ∀ A' c' w', w'.ownsRow base e 1 (.slice A' (n + m) c') (n + m) (nums k (xs ++ ys)) → w.grownBy w' v.ownBlock → ((Value.slice A' (n + m) c').ownBlock = v.ownBlock ∨ ∃ q, (Value.slice A' (n + m) c').ownBlock = some q ∧ w.heap.size ≤ q) → wpList P ops Q rest (a.put o.dst (.slice A' (n + m) c')) w') :
    wpList P ops Q (o :: rest) a w := by
  obtain ⟨i0, hi, hz0, hz1, hz2⟩ := info_parts hinfo
  have hlen : n + m ≤ 140737488355328 := Nat.le_trans (Nat.le_mul_of_pos_right _ hb0) hl
  cases A with
  | none =>
    obtain ⟨rfl, rfl⟩ := hr.nil rfl
    have hy : ys = [] := List.eq_nil_of_length_eq_zero hr.len
    subst hy
    refine wpList_append_own_none hgd s x t ho base e i0 1 ht hi v n (nums k xs) hs hown hx ?_
    obtain ⟨A', c', rfl⟩ := row_slice hown
    exact h A' c' w (by simpa using hown) (World.grownBy.refl _ _) (.inl rfl)
  | some ad =>
    have hcell : ∀ j u, (nums k ys)[j]? = some u → w.cell? (ad.add j) = some u := by
      intro j u hu
      have hj : j < ys.length := by
        have := (List.getElem?_eq_some_iff.1 hu).1
        simpa [nums] using this
      obtain ⟨ad', e', hc⟩ := hr.cell (by have := hr.len; omega)
      cases e'
      rw [hc j (by have := hr.len; omega)]
      rw [← hu]
      simp [nums, List.getD, hj]
    refine wpList_append_own_at w hgd s x t ho base e i0 (.int k 0) 1 bytes ht hi hz0 hz1 hz2 rfl (by omega) v n (nums k xs) hs hown ad m c (nums k ys) hx (by simp [nums, hr.len]) hcell (ints_oneCell k ys) (by unfold maxLen; omega) hl hbase ?_
    intro v' w' hown' hg _ hat
    obtain ⟨A', c', rfl⟩ := row_slice hown'
    refine h A' c' w' (by simpa [nums] using hown') hg ?_
    rcases hat with hat | hat
    · exact .inl hat
    · exact .inr ⟨_, hat, Nat.le_refl _⟩

theorem rd_string {w : World} {A : Option Addr} {n c : Nat} {xs : List Int} (h : Rd w .u8 A n c xs) : (convert 25 9 (.slice A n c)).run Try.prog w = .ok (.string (strOfNums xs)) w := by
  cases A with
  | none =>
    obtain ⟨rfl, rfl⟩ := h.nil rfl
    have : xs = [] := List.eq_nil_of_length_eq_zero h.len
    subst this
    exact run_convert_bytes_nil w 25 5 Try.underlying25 Try.underlying5 0 0 9 Try.underlying9
  | some ad =>
    rcases Nat.eq_zero_or_pos n with h0 | h0
    · subst h0
      have : xs = [] := List.eq_nil_of_length_eq_zero h.len
      subst this
      rw [run_convert_bytes_string w 25 9 5 _ 0 c Try.underlying25 Try.underlying5 Try.underlying9]
      have hl : (loadCells ad 0).run Try.prog w = .ok (([] : List Int).map (Value.int .u8)).toArray w := by
        have := run_loadCells_list (P := Try.prog) w ad [] (fun j v hj => by simp at hj)
        simpa using this
      rw [run_bytesToString w _ 0 c [] hl]
      rfl
    · obtain ⟨ad', e, hc⟩ := h.cell h0
      cases e
      obtain ⟨b, off, s⟩ := ad
      have hs : s = none := by
        have := hc 0 h0
        cases s with
        | none => rfl
        | some z =>
          exfalso
          unfold Addr.add at this
          simp only at this
          unfold World.cell? at this
          split at this
          · split at this <;> simp_all
          · cases this
      subst hs
      refine run_convert_bytes_arg w 25 5 Try.underlying25 Try.underlying5 b off n c xs h.len (fun i hi => ?_) 9 Try.underlying9
      have := hc i hi
      rwa [Addr.add_lit] at this
theorem own_rd {w : World} {B e n c : Nat} {k : IntKind} {A : Option Addr} {xs : List Int} (h : w.ownsRow B e 1 (.slice A n c) n (nums k xs)) (hn : n ≤ 140737488355328) : Rd w k A n c xs ∧ (∀ ad, A = some ad → ad.spot = none ∧ B ≤ ad.block ∧ ad.block < w.heap.size) := by
  have hl : xs.length = n := by have := h.1; simpa [nums] using this
  rcases h.2 with ⟨e1, e2⟩ | ⟨q, cap, cur, e1, hB, hh, h3, h4, h5, h6⟩
  · injection e1 with e1 e3 e4
    subst e1 e4
    exact ⟨⟨hl, hn, fun _ => ⟨e2, rfl⟩, fun h => by omega⟩, fun ad e => by cases e⟩
  · injection e1 with e1 e3 e4
    subst e1 e4
    refine ⟨⟨hl, hn, (fun e => by cases e), fun hp => ⟨_, rfl, fun j hj => ?_⟩⟩, fun ad e => by cases e; exact ⟨rfl, hB, lt_of_block hh⟩⟩
    exact h.cells (g := q) rfl j _ (by have h1 : j < xs.length := by omega
                                       simp [nums, List.getElem?_map, List.getElem?_eq_getElem h1, List.getD])

end Go.Proofs.Ytinffeffffligaa.Bas
