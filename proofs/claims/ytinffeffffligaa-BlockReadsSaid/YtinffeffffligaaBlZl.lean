import Derived.Test.YtinffeffffligaaBlZh
set_option linter.unusedVariables false
set_option linter.unusedSimpArgs false
namespace Go.Proofs.Ytinffeffffligaa.Bas
open Go.RowKit Go.Maps

/-! ### A block's parts, read and built -/
def nums4 : Nat → List Int → List Nat
  | 0, _ => []
  | m + 1, l => numB (l.take 4) :: nums4 m (l.drop 4)
theorem nums4_len : ∀ m l, (nums4 m l).length = m
  | 0, _ => rfl
  | m + 1, l => by unfold nums4; rw [List.length_cons, nums4_len m]
theorem nums4_succ : ∀ m l, nums4 (m + 1) l = nums4 m l ++ [numB ((l.drop (4 * m)).take 4)]
  | 0, l => by simp [nums4]
  | m + 1, l => by
    have ih := nums4_succ m (l.drop 4)
    show numB (l.take 4) :: nums4 (m + 1) (l.drop 4) = (numB (l.take 4) :: nums4 m (l.drop 4)) ++ _
    rw [ih, List.drop_drop, List.cons_append]
    rw [show 4 + 4 * m = 4 * (m + 1) by omega]
theorem nums4_low4s : ∀ (R : List Nat) (rest : List Int), (∀ x ∈ R, x < 4294967296) → nums4 R.length (low4s R ++ rest) = R
  | [], rest, _ => rfl
  | x :: R, rest, h => by
    have e : low4s (x :: R) ++ rest = lowB x 4 ++ (low4s R ++ rest) := by simp [low4s]
    rw [e]
    show numB ((lowB x 4 ++ _).take 4) :: nums4 R.length ((lowB x 4 ++ _).drop 4) = _
    rw [List.take_left' (lowB_len x 4), List.drop_left' (lowB_len x 4), numB_lowB 4 x (h x (by simp)), nums4_low4s R rest (fun y hy => h y (List.mem_cons_of_mem _ hy))]
theorem low4s_nums4 : ∀ (m : Nat) (l : List Int), Byt l → 4 * m ≤ l.length → low4s (nums4 m l) = l.take (4 * m)
  | 0, l, _, _ => by simp [low4s, nums4]
  | m + 1, l, hb, h => by
    have ih := low4s_nums4 m (l.drop 4) (byt_drop hb 4) (by rw [List.length_drop]; omega)
    have e : low4s (nums4 (m + 1) l) = lowB (numB (l.take 4)) 4 ++ low4s (nums4 m (l.drop 4)) := by simp [nums4, low4s]
    have h4 : (l.take 4).length = 4 := by rw [List.length_take]; omega
    have e2 := lowB_numB (byt_take hb 4)
    rw [h4] at e2
    rw [e, ih, e2, show 4 * (m + 1) = 4 + 4 * m by omega, List.take_add]
def restsOf (xs : List Int) : List Nat := nums4 (cntB xs) (xs.drop (xs.length - 8 - 4 * cntB xs))
theorem ends_small {es : List En} (h : GoodE es) (s : Nat) : ∀ i, i ≤ es.length → ∀ x ∈ endsB s es i, x < 4294967296
  | 0, _, x, hx => by cases hx
  | i + 1, hi, x, hx => by
    unfold endsB at hx
    have ho := outB_len h s i (by omega)
    have hl := h.len
    split at hx
    · rcases List.mem_append.1 hx with hx | hx
      · exact ends_small h s i (by omega) x hx
      · rw [List.mem_singleton.1 hx]; omega
    · exact ends_small h s i (by omega) x hx
theorem IsB.fit {xs : List Int} {es : List En} {s : Nat} (h : IsB xs es s) : Fit (frontOf xs) (restsOf xs) es s := by
  obtain ⟨p1, p2, p3, p4, p5⟩ := h.parts
  refine ⟨h.good, h.rise, h.low, p5, ?_⟩
  have hl : xs.length = (outB s es es.length).length + (endsB s es es.length).length * 4 + 8 := by rw [h.eq]; exact buildB_len s es
  have hx : xs = outB s es es.length ++ (low4s (endsB s es es.length) ++ (lowB (endsB s es es.length).length 4 ++ sumB (bodyB s es))) := by
    have hb : xs = bodyB s es ++ sumB (bodyB s es) := h.eq
    have e9 : bodyB s es = outB s es es.length ++ (low4s (endsB s es es.length) ++ lowB (endsB s es es.length).length 4) := by unfold bodyB; rw [List.append_assoc]
    conv => lhs; rw [hb]
    generalize sumB (bodyB s es) = z
    rw [e9]
    simp only [List.append_assoc]
  unfold restsOf
  have e1 : xs.length - 8 - 4 * cntB xs = (outB s es es.length).length := by omega
  rw [e1]
  have e2 : xs.drop (outB s es es.length).length = low4s (endsB s es es.length) ++ (lowB (endsB s es es.length).length 4 ++ sumB (bodyB s es)) := by
    conv => lhs; rw [hx]
    rw [List.drop_left' rfl]
  rw [e2, p3]
  exact (nums4_low4s _ _ (ends_small h.good s _ (Nat.le_refl _)))
theorem Fit.isB {xs : List Int} {es : List En} {s : Nat} (hb : Byt xs) (h8 : 8 ≤ xs.length) (hsum : SumOk xs) (hc : 4 * cntB xs ≤ xs.length - 8) (h : Fit (frontOf xs) (restsOf xs) es s) (hs : s ≤ 100) : IsB xs es s := by
  refine ⟨h.good, h.rise, h.low, hs, ?_⟩
  have hbody : bodyB s es = xs.take (xs.length - 4) := by
    unfold bodyB
    rw [← h.out, ← h.ends]
    have e1 : (restsOf xs).length = cntB xs := nums4_len _ _
    have e2 : low4s (restsOf xs) = (xs.drop (xs.length - 8 - 4 * cntB xs)).take (4 * cntB xs) := low4s_nums4 _ _ (byt_drop hb _) (by rw [List.length_drop]; omega)
    have h4 : ((xs.drop (xs.length - 8)).take 4).length = 4 := by rw [List.length_take, List.length_drop]; omega
    have e3 : lowB (cntB xs) 4 = (xs.drop (xs.length - 8)).take 4 := by
      have := lowB_numB (byt_take (byt_drop hb (xs.length - 8)) 4)
      rw [h4] at this
      exact this
    rw [e1, e2, e3]
    unfold frontOf
    generalize cntB xs = k at hc
    have a1 : xs.take (xs.length - 8 - 4 * k) ++ (xs.drop (xs.length - 8 - 4 * k)).take (4 * k) = xs.take (xs.length - 8) := by
      rw [← List.take_add, show xs.length - 8 - 4 * k + 4 * k = xs.length - 8 by omega]
    rw [a1, ← List.take_add, show xs.length - 8 + 4 = xs.length - 4 by omega]
  unfold buildB
  rw [hbody]
  unfold SumOk at hsum
  rw [← hsum, List.take_append_drop]
/-- The sum, as it is compared. -/
theorem sumOk_iff {xs : List Int} (hb : Byt xs) (h8 : 8 ≤ xs.length) : SumOk xs ↔ unmaskN (numB ((xs.drop (xs.length - 4)).take 4)) = crcN (xs.take (xs.length - 4)) := by
  have hl4 : (xs.drop (xs.length - 4)).length = 4 := by rw [List.length_drop]; omega
  have ht : (xs.drop (xs.length - 4)).take 4 = xs.drop (xs.length - 4) := List.take_of_length_le (by omega)
  rw [ht]
  have hlt : numB (xs.drop (xs.length - 4)) < 4294967296 := by have := numB_lt (byt_drop hb (xs.length - 4)); rw [hl4] at this; exact this
  have hcl := crcN_lt (byt_take hb (xs.length - 4))
  unfold SumOk sumB
  constructor
  · intro h
    rw [h, numB_lowB 4 _ (maskN_lt _), unmask_mask hcl]
  · intro h
    rw [← h, mask_unmask hlt]
    have := lowB_numB (byt_drop hb (xs.length - 4))
    rw [hl4] at this
    exact this.symm
def toldZ : Value := .agg #[.slice none 0 0, .slice none 0 0, .int .i64 0, .int .i64 0]
/-- What Read tells. -/
def RdP (xs : List Int) (w : World) (e : Ending) (w' : World) : Prop :=
  Below w.heap.size w w' ∧ ((xs.length < 8 ∧ e = .returned (.tuple #[toldZ, .int .i64 4])) ∨
    (8 ≤ xs.length ∧ ¬ SumOk xs ∧ e = .returned (.tuple #[toldZ, .int .i64 5])) ∨
    (8 ≤ xs.length ∧ SumOk xs ∧ (∀ es s, ¬ IsB xs es s) ∧ e = .returned (.tuple #[toldZ, .int .i64 2])) ∨
    (∃ vl vr, ∃ lo hi : Int, ∃ ps s, IsB xs (ps.map (fun p : Pr => p.2)) s ∧ e = .returned (.tuple #[.agg #[vl, vr, .int .i64 lo, .int .i64 hi], .int .i64 0]) ∧ Ow w.heap.size w' vl ps ∧
      Nu .i64 3 w.heap.size w' vr (intsN (endsB s (ps.map (fun p : Pr => p.2)) ps.length))))
end Go.Proofs.Ytinffeffffligaa.Bas
