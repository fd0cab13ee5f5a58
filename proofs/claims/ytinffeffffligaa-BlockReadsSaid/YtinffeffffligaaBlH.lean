import Derived.Test.YtinffeffffligaaBlG
set_option linter.unusedVariables false
set_option linter.unusedSimpArgs false
namespace Go.Proofs.Ytinffeffffligaa.Bas
open Go.RowKit Go.Maps

/-! ### Numbers in few bytes, in plain words -/
def varF : Nat → Nat → List Int
  | 0, _ => []
  | f + 1, x => if x < 128 then [(x : Int)] else ((x % 128 + 128 : Nat) : Int) :: varF f (x / 128)
def varB (x : Nat) : List Int := varF (x + 1) x
theorem varF_ge : ∀ (f g x : Nat), x < f → x < g → varF f x = varF g x
  | 0, _, _, h, _ => by omega
  | _ + 1, 0, _, _, h => by omega
  | f + 1, g + 1, x, h1, h2 => by
    unfold varF
    by_cases h : x < 128
    · rw [if_pos h, if_pos h]
    · rw [if_neg h, if_neg h, varF_ge f g (x / 128) (by omega) (by omega)]
theorem varB_small {x : Nat} (h : x < 128) : varB x = [(x : Int)] := by unfold varB varF; rw [if_pos h]
theorem varB_big {x : Nat} (h : ¬ x < 128) : varB x = ((x % 128 + 128 : Nat) : Int) :: varB (x / 128) := by
  have e : varB x = ((x % 128 + 128 : Nat) : Int) :: varF x (x / 128) := by
    show varF (x + 1) x = _
    rw [varF, if_neg h]
  rw [e, varF_ge x (x / 128 + 1) (x / 128) (by omega) (by omega)]
  rfl
theorem varB_ne (x : Nat) : varB x ≠ [] := by
  by_cases h : x < 128
  · rw [varB_small h]; simp
  · rw [varB_big h]; simp
theorem varB_byt (x : Nat) : Byt (varB x) := by
  induction x using Nat.strongRecOn with
  | ind x ih =>
    intro y hy
    by_cases h : x < 128
    · rw [varB_small h] at hy
      rw [List.mem_singleton.1 hy]; omega
    · rw [varB_big h] at hy
      rcases List.mem_cons.1 hy with hy | hy
      · rw [hy]; omega
      · exact ih _ (by omega) y hy
theorem varB_pos (x : Nat) : 0 < (varB x).length := List.length_pos_iff.2 (varB_ne x)
theorem varB_len : ∀ (k x : Nat), x < 128 ^ (k + 1) → (varB x).length ≤ k + 1
  | 0, x, h => by rw [varB_small (by omega)]; simp
  | k + 1, x, h => by
    by_cases h1 : x < 128
    · rw [varB_small h1]; simp
    · rw [varB_big h1, List.length_cons]
      have := varB_len k (x / 128) (by rw [Nat.pow_succ] at h; omega)
      omega
theorem varB_len10 {x : Nat} (h : x < 18446744073709551616) : (varB x).length ≤ 10 := varB_len 9 x (by omega)
/-- What bytes that go on are worth. -/
def valD : List Nat → Nat
  | [] => 0
  | d :: r => d + 128 * valD r
theorem valD_lt : ∀ {ds : List Nat}, (∀ d ∈ ds, d < 128) → valD ds < 128 ^ ds.length
  | [], _ => by simp [valD]
  | d :: r, h => by
    have h1 := h d (List.mem_cons_self ..)
    have h2 := valD_lt (fun x hx => h x (List.mem_cons_of_mem _ hx))
    rw [List.length_cons, Nat.pow_succ]
    unfold valD
    omega
theorem valD_snoc : ∀ (ds : List Nat) (d : Nat), valD (ds ++ [d]) = valD ds + 128 ^ ds.length * d
  | [], d => by simp [valD]
  | c :: r, d => by
    show c + 128 * valD (r ++ [d]) = c + 128 * valD r + 128 ^ (r.length + 1) * d
    rw [valD_snoc r d, Nat.pow_succ, Nat.mul_add, Nat.mul_comm (128 ^ r.length) 128, Nat.mul_assoc]
    omega
def onB (ds : List Nat) : List Int := ds.map (fun d => ((d + 128 : Nat) : Int))
theorem var_cont : ∀ {ds : List Nat}, (∀ d ∈ ds, d < 128) → ∀ {Y : Nat}, 1 ≤ Y → varB (valD ds + 128 ^ ds.length * Y) = onB ds ++ varB Y
  | [], _, Y, _ => by simp [valD, onB]
  | d :: r, h, Y, hY => by
    have h1 := h d (List.mem_cons_self ..)
    have e : valD (d :: r) + 128 ^ (d :: r).length * Y = d + 128 * (valD r + 128 ^ r.length * Y) := by
      show d + 128 * valD r + 128 ^ (r.length + 1) * Y = _
      rw [Nat.pow_succ, Nat.mul_add, Nat.mul_comm (128 ^ r.length) 128, Nat.mul_assoc]
      omega
    have hp : 1 ≤ 128 ^ r.length * Y := Nat.mul_pos (Nat.pow_pos (by omega)) hY
    rw [e, varB_big (by omega), show (d + 128 * (valD r + 128 ^ r.length * Y)) / 128 = valD r + 128 ^ r.length * Y by omega, show (d + 128 * (valD r + 128 ^ r.length * Y)) % 128 = d by omega, var_cont (fun x hx => h x (List.mem_cons_of_mem _ hx)) hY]
    rfl
theorem var_split : ∀ {ds : List Nat}, (∀ d ∈ ds, d < 128) → ∀ {X : Nat} {r rest : List Int}, onB ds ++ r = varB X ++ rest → ∃ Y, X = valD ds + 128 ^ ds.length * Y ∧ r = varB Y ++ rest ∧ (ds ≠ [] → 1 ≤ Y)
  | [], _, X, r, rest, h => ⟨X, by simp [valD], by simpa [onB] using h, fun h => absurd rfl h⟩
  | d :: l, h, X, r, rest, he => by
    have h1 := h d (List.mem_cons_self ..)
    have e0 : onB (d :: l) ++ r = ((d + 128 : Nat) : Int) :: (onB l ++ r) := rfl
    rw [e0] at he
    by_cases hX : X < 128
    · rw [varB_small hX] at he
      injection he with h2 _
      omega
    · rw [varB_big hX] at he
      injection he with h2 h3
      obtain ⟨Y, y1, y2, y3⟩ := var_split (fun x hx => h x (List.mem_cons_of_mem _ hx)) h3
      refine ⟨Y, ?_, y2, fun _ => ?_⟩
      · show X = d + 128 * valD l + 128 ^ (l.length + 1) * Y
        rw [Nat.pow_succ, Nat.mul_comm (128 ^ l.length) 128, Nat.mul_assoc]
        omega
      · by_cases hl : l = []
        · subst hl
          simp [valD] at y1
          omega
        · exact y3 hl
/-- There is a number at a place. -/
structure VarAt (b : List Int) (at_ x to_ : Nat) : Prop where
  lt : x < 18446744073709551616
  eq : b.drop at_ = varB x ++ b.drop to_
  len : to_ = at_ + (varB x).length
  le : to_ ≤ b.length
theorem VarAt.one {b : List Int} {at_ x y to_ to2 : Nat} (h : VarAt b at_ x to_) (k : VarAt b at_ y to2) : x = y ∧ to_ = to2 := by
  have key : ∀ (x y : Nat) (r s : List Int), varB x ++ r = varB y ++ s → x = y := by
    intro x
    induction x using Nat.strongRecOn with
    | ind x ih =>
      intro y r s he
      by_cases h1 : x < 128
      · by_cases h2 : y < 128
        · rw [varB_small h1, varB_small h2] at he
          injection he with h3 _
          omega
        · rw [varB_small h1, varB_big h2] at he
          injection he with h3 _
          omega
      · by_cases h2 : y < 128
        · rw [varB_big h1, varB_small h2] at he
          injection he with h3 _
          omega
        · rw [varB_big h1, varB_big h2] at he
          injection he with h3 h4
          have := ih (x / 128) (by omega) (y / 128) r s h4
          omega
  have e : x = y := key x y _ _ (h.eq.symm.trans k.eq)
  subst e
  exact ⟨rfl, by rw [h.len, k.len]⟩
theorem VarAt.of {b : List Int} {at_ x : Nat} {rest : List Int} (hx : x < 18446744073709551616) (h : b.drop at_ = varB x ++ rest) : VarAt b at_ x (at_ + (varB x).length) := by
  have hl := congrArg List.length h
  rw [List.length_drop, List.length_append] at hl
  have hp := varB_pos x
  refine ⟨hx, ?_, rfl, by omega⟩
  rw [← List.drop_drop, h, List.drop_left' rfl]
/-- i bytes were read that go on, worth x. -/
structure Got (b : List Int) (at_ i x : Nat) : Prop where
  out : ∃ ds : List Nat, ds.length = i ∧ (∀ d ∈ ds, d < 128) ∧ x = valD ds ∧ b.drop at_ = onB ds ++ b.drop (at_ + i)
theorem got_none (b : List Int) (at_ : Nat) : Got b at_ 0 0 := ⟨⟨[], rfl, (fun d hd => by cases hd), rfl, rfl⟩⟩
theorem Got.lt {b : List Int} {at_ i x : Nat} (h : Got b at_ i x) : x < 128 ^ i := by
  obtain ⟨ds, rfl, h1, rfl, _⟩ := h.out
  exact valD_lt h1
theorem drop_at {b : List Int} {k : Nat} (hk : k < b.length) : b.drop k = b.getD k 0 :: b.drop (k + 1) := drop_getD hk
theorem Got.more {b : List Int} {at_ i x d : Nat} (h : Got b at_ i x) (hi : at_ + i < b.length) (hd : b.getD (at_ + i) 0 = ((d + 128 : Nat) : Int)) (hl : d < 128) : Got b at_ (i + 1) (x + 128 ^ i * d) := by
  obtain ⟨ds, rfl, h1, rfl, h2⟩ := h.out
  refine ⟨⟨ds ++ [d], by simp, fun y hy => ?_, (valD_snoc ds d).symm, ?_⟩⟩
  · rcases List.mem_append.1 hy with hy | hy
    · exact h1 y hy
    · rw [List.mem_singleton.1 hy]; exact hl
  · rw [h2, drop_at hi, hd]
    simp [onB]
    rfl
theorem Got.done {b : List Int} {at_ i x c : Nat} (h : Got b at_ i x) (hi : at_ + i < b.length) (hd : b.getD (at_ + i) 0 = (c : Int)) (hl : c < 128) (h0 : i = 0 ∨ c ≠ 0) (h9 : i < 9 ∨ (i = 9 ∧ c ≤ 1)) : VarAt b at_ (x + 128 ^ i * c) (at_ + i + 1) := by
  obtain ⟨ds, rfl, h1, rfl, h2⟩ := h.out
  have hlt : valD ds + 128 ^ ds.length * c < 18446744073709551616 := by
    have := valD_lt h1
    rcases h9 with h9 | ⟨h9, hc⟩
    · have h3 : 128 ^ ds.length ≤ 128 ^ 8 := Nat.pow_le_pow_right (by omega) (by omega)
      have h4 : 128 ^ ds.length * c ≤ 128 ^ 8 * 127 := Nat.mul_le_mul h3 (by omega)
      omega
    · rw [h9] at this ⊢
      have h4 : 128 ^ 9 * c ≤ 128 ^ 9 * 1 := Nat.mul_le_mul (Nat.le_refl _) hc
      omega
  have hv : varB (valD ds + 128 ^ ds.length * c) = onB ds ++ [(c : Int)] := by
    rcases h0 with h0 | h0
    · have : ds = [] := List.eq_nil_of_length_eq_zero h0
      subst this
      simp [valD, onB, varB_small hl]
    · rw [var_cont h1 (by omega), varB_small hl]
  have := VarAt.of (rest := b.drop (at_ + ds.length + 1)) hlt (by rw [hv, h2, drop_at hi, hd]; simp)
  rw [hv] at this
  simpa [onB, Nat.add_assoc] using this
theorem Got.short {b : List Int} {at_ i x : Nat} (h : Got b at_ i x) (hi : b.length ≤ at_ + i) : ∀ y to_, ¬ VarAt b at_ y to_ := by
  obtain ⟨ds, rfl, h1, rfl, h2⟩ := h.out
  intro y to_ hv
  rw [hv.eq] at h2
  obtain ⟨Y, _, e, _⟩ := var_split h1 h2.symm
  rw [List.drop_eq_nil_of_le hi] at e
  have := congrArg List.length e
  rw [List.length_append] at this
  have := varB_pos Y
  simp at *
  omega
theorem Got.zero {b : List Int} {at_ i x : Nat} (h : Got b at_ i x) (hi : at_ + i < b.length) (hd : b.getD (at_ + i) 0 = 0) (h0 : 0 < i) : ∀ y to_, ¬ VarAt b at_ y to_ := by
  obtain ⟨ds, rfl, h1, rfl, h2⟩ := h.out
  intro y to_ hv
  rw [hv.eq] at h2
  obtain ⟨Y, _, e, hY⟩ := var_split h1 h2.symm
  have hY1 := hY (fun e => by rw [e] at h0; simp at h0)
  rw [drop_at hi, hd] at e
  by_cases hs : Y < 128
  · rw [varB_small hs] at e
    injection e with e1 _
    omega
  · rw [varB_big hs] at e
    injection e with e1 _
    omega
theorem Got.great {b : List Int} {at_ x c : Nat} (h : Got b at_ 9 x) (hi : at_ + 9 < b.length) (hd : b.getD (at_ + 9) 0 = (c : Int)) (hc : 1 < c) : ∀ y to_, ¬ VarAt b at_ y to_ := by
  obtain ⟨ds, h9, h1, rfl, h2⟩ := h.out
  intro y to_ hv
  have hlt := hv.lt
  rw [hv.eq] at h2
  obtain ⟨Y, e0, e, hY⟩ := var_split h1 h2.symm
  rw [h9] at e0
  have hY2 : Y < 2 := by omega
  rw [drop_at hi, hd, varB_small (by omega)] at e
  injection e with e1 _
  omega
end Go.Proofs.Ytinffeffffligaa.Bas
