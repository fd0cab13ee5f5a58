import Derived.Test.YtinffeffffligaaBlZb
set_option linter.unusedVariables false
set_option linter.unusedSimpArgs false
namespace Go.Proofs.Ytinffeffffligaa.Bas
open Go.RowKit Go.Maps

/-! ### Which bytes are a block -/
theorem strOf_inj : ∀ {xs ys : List Int}, Byt xs → Byt ys → strOfNums xs = strOfNums ys → xs = ys := by
  intro xs ys hx hy h
  have h1 : xs.map (fun n => UInt8.ofNat n.toNat) = ys.map (fun n => UInt8.ofNat n.toNat) := by
    rw [← strOfNums_data, ← strOfNums_data, h]
  clear h
  induction xs generalizing ys with
  | nil => cases ys with
    | nil => rfl
    | cons y r => simp at h1
  | cons x r ih => cases ys with
    | nil => simp at h1
    | cons y s =>
      simp only [List.map_cons, List.cons.injEq] at h1
      have hxr := hx x (List.mem_cons_self ..)
      have hys := hy y (List.mem_cons_self ..)
      have e : x = y := by
        have h2 := congrArg UInt8.toNat h1.1
        simp only [UInt8.toNat_ofNat'] at h2
        omega
      rw [e, ih (fun z hz => hx z (List.mem_cons_of_mem _ hz)) (fun z hz => hy z (List.mem_cons_of_mem _ hz)) h1.2]
structure IsB (xs : List Int) (es : List En) (s : Nat) : Prop where
  good : GoodE es
  rise : risesFrom es = true
  low : 1 ≤ s
  high : s ≤ 100
  eq : xs = buildB s es
def SumOk (xs : List Int) : Prop := xs.drop (xs.length - 4) = sumB (xs.take (xs.length - 4))
def cntB (xs : List Int) : Nat := numB ((xs.drop (xs.length - 8)).take 4)
def frontOf (xs : List Int) : List Int := xs.take (xs.length - 8 - 4 * cntB xs)
theorem IsB.parts {xs : List Int} {es : List En} {s : Nat} (h : IsB xs es s) : 8 ≤ xs.length ∧ SumOk xs ∧ cntB xs = (endsB s es es.length).length ∧ 4 * cntB xs ≤ xs.length - 8 ∧ frontOf xs = outB s es es.length := by
  have hl : xs.length = (outB s es es.length).length + (endsB s es es.length).length * 4 + 8 := by rw [h.eq]; exact buildB_len s es
  have e1 := endsB_len s es es.length
  have g1 := h.good.len
  have hb : xs = bodyB s es ++ sumB (bodyB s es) := h.eq
  have hs4 : (sumB (bodyB s es)).length = 4 := lowB_len _ _
  have hbl : (bodyB s es).length = xs.length - 4 := by
    have := congrArg List.length hb
    rw [List.length_append, hs4] at this
    omega
  have hsum : SumOk xs := by
    unfold SumOk
    rw [← hbl]
    conv => lhs; rw [hb]
    conv => rhs; rw [hb]
    rw [List.drop_left' rfl, List.take_left' rfl]
  have hx : xs = outB s es es.length ++ (low4s (endsB s es es.length) ++ (lowB (endsB s es es.length).length 4 ++ sumB (bodyB s es))) := by
    have e9 : bodyB s es = outB s es es.length ++ (low4s (endsB s es es.length) ++ lowB (endsB s es es.length).length 4) := by unfold bodyB; rw [List.append_assoc]
    conv => lhs; rw [hb]
    generalize sumB (bodyB s es) = z
    rw [e9]
    simp only [List.append_assoc]
  have hl4 : (low4s (endsB s es es.length)).length = (endsB s es es.length).length * 4 := low4s_len _
  have h8 : xs.drop (xs.length - 8) = lowB (endsB s es es.length).length 4 ++ sumB (bodyB s es) := by
    have e2 : xs.length - 8 = (outB s es es.length ++ low4s (endsB s es es.length)).length := by rw [List.length_append, hl4]; omega
    rw [e2]
    conv => lhs; rw [hx]
    rw [← List.append_assoc, List.drop_left' rfl]
  have hc : cntB xs = (endsB s es es.length).length := by
    unfold cntB
    rw [h8, List.take_left' (lowB_len _ _), numB_lowB 4 _ (by omega)]
  refine ⟨by omega, hsum, hc, by omega, ?_⟩
  unfold frontOf
  rw [hc]
  have e3 : xs.length - 8 - 4 * (endsB s es es.length).length = (outB s es es.length).length := by omega
  rw [e3]
  conv => lhs; rw [hx]
  rw [List.take_left' rfl]
theorem IsB.loose {xs : List Int} {es : List En} {s : Nat} (h : IsB xs es s) : Loose (frontOf xs) 0 [] es := by
  rw [h.parts.2.2.2.2]
  exact loose_built h.good h.rise s
theorem IsB.one {xs : List Int} {es fs : List En} {s u : Nat} (h : IsB xs es s) (g : IsB xs fs u) : es = fs := (buildB_one h.good h.rise g.good g.rise (h.eq.symm.trans g.eq)).1
/-- What the reference's BlockAll tells. -/
def RAllP (xs : List Int) (w : World) (e : Ending) (w' : World) : Prop :=
  Below w.heap.size w w' ∧ ((xs.length < 8 ∧ e = .returned (.tuple #[.slice none 0 0, .int .i64 0, .int .i64 4])) ∨
    (8 ≤ xs.length ∧ ¬ SumOk xs ∧ e = .returned (.tuple #[.slice none 0 0, .int .i64 0, .int .i64 5])) ∨
    (8 ≤ xs.length ∧ SumOk xs ∧ (∀ es s, ¬ IsB xs es s) ∧ e = .returned (.tuple #[.slice none 0 0, .int .i64 0, .int .i64 2])) ∨
    (∃ v ps s, IsB xs (ps.map (fun p : Pr => p.2)) s ∧ e = .returned (.tuple #[v, .int .i64 (s : Nat), .int .i64 0]) ∧ Ow w.heap.size w' v ps))
end Go.Proofs.Ytinffeffffligaa.Bas
