import Derived.Test.YtgeklapphkgdkaaDsRa
set_option linter.unusedVariables false
set_option linter.unusedSimpArgs false
namespace Go.Proofs.Ytgeklapphkgdkaa.Dsk
open Go.RowKit Go.Maps

/-! ### Rows of files -/
theorem flat3_append (a b : List PF) : flat3 (a ++ b) = flat3 a ++ flat3 b := by simp [flat3]
theorem flat3_len {w : World} : ∀ {ps : List PF}, (∀ p ∈ ps, FileC w p.1 p.2) → (flat3 ps).length = ps.length * 3
  | [], _ => rfl
  | p :: r, h => by
    have h1 := (h p (by simp)).size
    have h2 := flat3_len (ps := r) (fun q hq => h q (List.mem_cons_of_mem _ hq))
    have e : flat3 (p :: r) = p.1.toList ++ flat3 r := by simp [flat3]
    rw [e, List.length_append, h2, List.length_cons, Array.length_toList, h1]
    omega
theorem flat3_one {w : World} {ps : List PF} (h : ∀ p ∈ ps, FileC w p.1 p.2) : ∀ u ∈ flat3 ps, u.oneCell' = true := by
  intro u hu
  unfold flat3 at hu
  rw [List.mem_flatten] at hu
  obtain ⟨l, hl, hul⟩ := hu
  obtain ⟨p, hp, rfl⟩ := List.mem_map.1 hl
  obtain ⟨nm, A, n, c, e, _⟩ := (h p hp).out
  rw [e] at hul
  simp at hul
  rcases hul with rfl | rfl | rfl <;> rfl
theorem flat3_get {w : World} : ∀ {ps : List PF}, (∀ p ∈ ps, FileC w p.1 p.2) → ∀ {k j : Nat}, k < ps.length → j < 3 → (flat3 ps)[k * 3 + j]? = ((ps.getD k (#[], ([], [], 0))).1)[j]?
  | [], _, k, j, hk, _ => by simp at hk
  | p :: r, h, k, j, hk, hj => by
    have h1 := (h p (by simp)).size
    have e : flat3 (p :: r) = p.1.toList ++ flat3 r := by simp [flat3]
    rw [e]
    cases k with
    | zero =>
      rw [List.getElem?_append_left (by rw [Array.length_toList, h1]; omega)]
      simp
    | succ k =>
      have ih := flat3_get (ps := r) (fun q hq => h q (List.mem_cons_of_mem _ hq)) (k := k) (j := j) (by simpa using hk) hj
      rw [List.getElem?_append_right (by rw [Array.length_toList, h1]; omega), Array.length_toList, h1]
      rw [show (k + 1) * 3 + j - 3 = k * 3 + j by omega, ih]
      simp
theorem flat3_drop {w : World} : ∀ {ps : List PF}, (∀ p ∈ ps, FileC w p.1 p.2) → ∀ k, k ≤ ps.length → (flat3 ps).drop (k * 3) = flat3 (ps.drop k)
  | [], _, k, hk => by
    obtain rfl : k = 0 := by simpa using hk
    rfl
  | p :: r, h, k, hk => by
    have h1 := (h p (by simp)).size
    have e : flat3 (p :: r) = p.1.toList ++ flat3 r := by simp [flat3]
    cases k with
    | zero => simp
    | succ k =>
      rw [e, List.drop_succ_cons, ← flat3_drop (ps := r) (fun q hq => h q (List.mem_cons_of_mem _ hq)) k (by simpa using hk)]
      rw [List.drop_append, List.drop_eq_nil_of_le (by rw [Array.length_toList, h1]; omega), Array.length_toList, h1, List.nil_append]
      congr 1
      omega
/-- Files that lie in a row, as a slice of them is read. -/
structure Row3 (w : World) (A : Option Addr) (m : Nat) (qs : List PF) : Prop where
  len : m = qs.length
  nil : A = none → m = 0
  cell : ∀ ad, A = some ad → ∀ j u, (flat3 qs)[j]? = some u → w.cell? (ad.add j) = some u
theorem Row3.below {w W : World} {A : Option Addr} {m : Nat} {qs : List PF} (h : Row3 w A m qs) (hb : Below w.heap.size w W) : Row3 W A m qs := ⟨h.len, h.nil, fun ad e j u hu => cell_kept hb (h.cell ad e j u hu)⟩
/-- A row's slice, and what lies behind a place of it. -/
theorem own_row3 {w : World} {B n c : Nat} {A : Option Addr} {ps : List PF} (h : w.ownsRow B 88 3 (.slice A n c) ps.length (flat3 ps)) (hf : ∀ p ∈ ps, FileC w p.1 p.2) :
    n = ps.length ∧ n ≤ c ∧ (0 < n → ∃ q, A = some ⟨q, 0, none⟩ ∧ ∀ j u, (flat3 ps)[j]? = some u → w.cell? ⟨q, j, none⟩ = some u) ∧ (A = none → n = 0 ∧ c = 0) := by
  rcases h.2 with ⟨e1, e2⟩ | ⟨q, cap, cur, e1, hB, hh, h3, h4, h5, h6⟩
  · injection e1 with e1 e3 e4
    subst e1 e3 e4
    exact ⟨e2.symm, Nat.le_refl _, fun h => absurd h (by omega), fun _ => ⟨rfl, rfl⟩⟩
  · injection e1 with e1 e3 e4
    subst e1 e3 e4
    refine ⟨rfl, h3, fun hp => ⟨q, rfl, fun j u hu => ?_⟩, (fun e => by cases e)⟩
    have := h.cells (g := q) rfl j u hu
    rw [Addr.add_lit, Nat.zero_add] at this
    exact this
theorem row3_take {w : World} {A : Option Addr} {n : Nat} {ps : List PF} (h : Row3 w A n ps) (hf : ∀ p ∈ ps, FileC w p.1 p.2) {i : Nat} (hi : i ≤ n) : Row3 w A i (ps.take i) := by
  refine ⟨by rw [List.length_take, ← h.len]; omega, fun e => by have := h.nil e; omega, fun ad e j u hu => h.cell ad e j u ?_⟩
  have e1 : flat3 ps = flat3 (ps.take i) ++ flat3 (ps.drop i) := by rw [← flat3_append, List.take_append_drop]
  rw [e1, List.getElem?_append_left (List.getElem?_eq_some_iff.1 hu).1]
  exact hu
theorem row3_drop {w : World} {A : Option Addr} {n c : Nat} {ps : List PF} (h : Row3 w A n ps) (hf : ∀ p ∈ ps, FileC w p.1 p.2) {i : Nat} (hi : i ≤ n) : Row3 w (if c = i then A else Option.map (fun x => x.add (i * 3)) A) (n - i) (ps.drop i) ∨ c = i := by
  by_cases hc : c = i
  · exact .inr hc
  · left
    rw [if_neg hc]
    refine ⟨by rw [List.length_drop, ← h.len], fun e => ?_, fun ad e j u hu => ?_⟩
    · cases A with
      | none => have := h.nil rfl; omega
      | some x => simp at e
    · cases A with
      | none => simp at e
      | some x =>
        simp at e
        subst e
        rw [Go.Deep.add_add]
        refine h.cell x rfl _ u ?_
        rw [← flat3_drop hf i (by rw [← h.len]; exact hi), List.getElem?_drop] at hu
        exact hu
theorem Try.infoF6 : (Try.prog.info? 88).map (fun i => (i.zero, i.size, i.bytes)) = some (some (.agg #[.string ByteArray.empty, .slice none 0 0, .int .i64 0]), 3, 48) := by kernel_rfl
/-- append(v, src...) of files, as one step of a region that draws. -/
theorem step_append_f3 {B : Nat} {w : World} {ops : Array Oper} {o : Oper} {a : Act} {K : Act → World → Prop} {Q : Exit → Act → World → Prop} {E : Prop} (hgd : o.guard = none) (s x : Operand)
    (ho : o.op = .call { callee := .builtin .append, args := #[s, x], argTypes := #[73, 73] })
    (v : Value) (ps qs : List PF) (A : Option Addr) (m c : Nat) (hs : a.eval s = v) (hx : a.eval x = .slice A m c) (h : w.ownsRow B 88 3 v ps.length (flat3 ps)) (hp : ∀ p ∈ ps, FileC w p.1 p.2) (hq : ∀ p ∈ qs, FileC w p.1 p.2) (hr : Row3 w A m qs) (hc : A = none → c = 0)
    (hl : ps.length + qs.length ≤ 100000) (hbase : B ≤ w.heap.size)
    (hnext : ∀ A' n' c' w', w'.ownsRow B 88 3 (.slice A' n' c') (ps ++ qs).length (flat3 (ps ++ qs)) → Fr w w' (fun q => some q = v.ownBlock) → ((Value.slice A' n' c').ownBlock = v.ownBlock ∨ ∃ q, (Value.slice A' n' c').ownBlock = some q ∧ w.heap.size ≤ q) → K (a.put o.dst (.slice A' n' c')) w') :
    if Region.wanted o (yielded ops a.tmps) = true then Oper.wp Try.prog o a w K Q else E := by
  have hw : Region.wanted o (yielded ops a.tmps) = true := by simp [Region.wanted, hgd]
  rw [if_pos hw]
  obtain ⟨i0, hi, hz0, hz1, hz2⟩ := info_parts Try.infoF6
  have hlen : (flat3 qs).length = m * 3 := by rw [flat3_len hq, hr.len]
  have hml := hr.len
  have slice_of : ∀ {W : World} {v' : Value} {n : Nat} {xs : List Value}, W.ownsRow B 88 3 v' n xs → ∃ A' n' c', v' = .slice A' n' c' := fun {W v' n xs} hh => by
    rcases hh.2 with ⟨e1, e2⟩ | ⟨q, cap, cur, e1, _⟩
    · exact ⟨none, 0, 0, e1⟩
    · exact ⟨_, _, _, e1⟩
  cases A with
  | none =>
    have hm0 := hr.nil rfl
    have hc0 := hc rfl
    subst hc0
    have hq0 : qs = [] := List.eq_nil_of_length_eq_zero (by omega)
    subst hq0
    subst hm0
    have hrun := run_append_owned_none (P := Try.prog) (w := w) B 73 o.type 88 i0 3 Try.underlying73 hi v ps.length (flat3 ps) h
    unfold Oper.wp
    simp [execOp, ho, resolve, invoke, builtin, hs, hx, hrun, Result.andThen]
    obtain ⟨A', n', c', rfl⟩ := slice_of h
    exact hnext A' n' c' w (by simpa using h) (Fr.refl _ _) (.inl rfl)
  | some ad =>
    obtain ⟨v', w', hrun, h1, h2, h3, h4⟩ := run_append_own_at (P := Try.prog) w B 73 o.type 88 i0 _ 3 48 Try.underlying73 hi hz0 hz1 hz2 rfl (by omega) v ps.length (flat3 ps) h ad m c (flat3 qs) hlen (fun j u hu => hr.cell ad rfl j u hu) (flat3_one hq) (by unfold maxLen; omega) (by omega) hbase
    unfold Oper.wp execOp
    simp only [ho, resolve, invoke, builtin, Sem.run_bind, Sem.run_pure, Result.andThen_ok, List.map_toArray, List.map_cons, List.map_nil, hs, hx, hrun]
    obtain ⟨A', n', c', rfl⟩ := slice_of h1
    refine hnext A' n' c' w' (by rw [flat3_append, List.length_append, ← hml]; exact h1) (Fr.grown (S := fun q => some q = v.ownBlock) (Fr.refl w _) h2 (fun q hq => .inl hq.symm)) ?_
    rcases h4 with h4 | h4
    · exact .inl h4
    · exact .inr ⟨_, h4, Nat.le_refl _⟩
end Go.Proofs.Ytgeklapphkgdkaa.Dsk
