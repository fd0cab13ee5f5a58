import Derived.Test.YtinffeffffligaaBlZ
set_option linter.unusedVariables false
set_option linter.unusedSimpArgs false
namespace Go.Proofs.Ytinffeffffligaa.Bas
open Go.RowKit Go.Maps

/-! ### What was built is read back -/
theorem outB_pre (s : Nat) (es : List En) (i : Nat) : ∀ d, ∃ r, outB s es (i + d) = outB s es i ++ r
  | 0 => ⟨[], by simp⟩
  | d + 1 => by
    obtain ⟨r, hr⟩ := outB_pre s es i d
    refine ⟨r ++ encE (lastB es (i + d)) (kb (es.getD (i + d) enD).k) (comB s es (i + d)) (es.getD (i + d) enD).val, ?_⟩
    show outB s es (i + d) ++ _ = _
    rw [hr, List.append_assoc]
    rfl
theorem comB_want (s : Nat) (es : List En) (i : Nat) : comB s es i = wantB (decide (i % s = 0)) (lastB es i) (kb (es.getD i enD).k) := by
  unfold comB wantB
  by_cases h : i % s = 0
  · rw [if_pos h, decide_eq_true h]; rfl
  · rw [if_neg h, decide_eq_false h]; rfl
theorem rises_at : ∀ {es : List En} {i : Nat}, risesFrom es = true → i + 1 < es.length → keyCmp (es.getD i enD).k (es.getD (i + 1) enD).k < 0
  | [], _, _, h => by simp at h
  | [_], i, _, h => by simp at h
  | a :: b :: r, 0, hr, _ => by
    simp only [risesFrom, Bool.and_eq_true, decide_eq_true_eq] at hr
    exact hr.1
  | a :: b :: r, i + 1, hr, h => by
    simp only [risesFrom, Bool.and_eq_true, decide_eq_true_eq] at hr
    have := rises_at (es := b :: r) (i := i) hr.2 (by simpa using h)
    simpa using this
/-- The entry i stands where it was put. -/
theorem step_at {es : List En} (hg : GoodE es) (hr : risesFrom es = true) (s : Nat) {i : Nat} (hi : i < es.length) :
    StepE (outB s es es.length) (lastB es i) (decide (i % s = 0)) (es.take i) (outB s es i).length (es.getD i enD) (outB s es (i + 1)).length := by
  obtain ⟨r, h1⟩ := outB_pre s es (i + 1) (es.length - (i + 1))
  rw [show i + 1 + (es.length - (i + 1)) = es.length by omega] at h1
  have h2 : outB s es (i + 1) = outB s es i ++ encE (lastB es i) (kb (es.getD i enD).k) (comB s es i) (es.getD i enD).val := rfl
  have htl : (es.take i).length = i := by rw [List.length_take]; omega
  refine ⟨?_, ?_, ?_, hg.right i hi, hg.seq i hi, fun hp => ?_, by rw [htl]; have := hg.len; omega⟩
  · rw [← comB_want]
    have e1 : (outB s es es.length).drop (outB s es (i + 1)).length = r := by rw [h1, List.drop_left' rfl]
    rw [e1, h1, h2, List.append_assoc, List.drop_left' rfl]
  · rw [← comB_want, h2, List.length_append]
  · rw [h1, List.length_append]; omega
  · rw [htl] at hp
    obtain ⟨q, rfl⟩ : ∃ q, i = q + 1 := ⟨i - 1, by omega⟩
    unfold lastK
    rw [htl, Nat.add_sub_cancel]
    have e1 : (es.take (q + 1)).getD q enD = es.getD q enD := by simp [List.getD, List.getElem?_take_of_lt (show q < q + 1 by omega)]
    rw [e1]
    exact rises_at hr hi
theorem StepE.lstep {xs last : List Int} {rs : Bool} {es : List En} {at_ : Nat} {e : En} {t : Nat} (h : StepE xs last rs es at_ e t) : LStep xs last at_ e t := by
  obtain ⟨t1, t2, t3, H, hk, hv⟩ := h.three
  refine ⟨⟨_, _, _, t1, t2, t3, ⟨H.v1, H.v2, H.v3, H.l1, H.room⟩, hk.symm, hv.symm, ?_⟩, h.right.key, h.seq⟩
  have hlen := h.len
  unfold encE at hlen
  simp only [List.length_append, List.length_drop] at hlen
  have l1 := H.v1.len
  have l2 := H.v2.len
  have l3 := H.v3.len
  omega
theorem loose_out {es : List En} (hg : GoodE es) (hr : risesFrom es = true) (s : Nat) : ∀ d i, i + d = es.length → Loose (outB s es es.length) (outB s es i).length (lastB es i) (es.drop i)
  | 0, i, h => by
    have : i = es.length := by omega
    subst this
    rw [List.drop_length]
    rfl
  | d + 1, i, h => by
    have hi : i < es.length := by omega
    rw [List.drop_eq_getElem_cons hi]
    have e1 : es[i] = es.getD i enD := by simp [List.getD, hi]
    rw [e1]
    refine ⟨_, (step_at hg hr s hi).lstep, ?_⟩
    have := loose_out hg hr s d (i + 1) (by omega)
    rw [lastB_succ] at this
    exact this
theorem loose_built {es : List En} (hg : GoodE es) (hr : risesFrom es = true) (s : Nat) : Loose (outB s es es.length) 0 [] es := by
  have := loose_out hg hr s es.length 0 (by omega)
  simpa [outB, lastB] using this
/-- The parts of a built block. -/
theorem buildB_len (s : Nat) (es : List En) : (buildB s es).length = (outB s es es.length).length + (endsB s es es.length).length * 4 + 8 := by
  unfold buildB bodyB sumB
  rw [List.length_append, List.length_append, List.length_append, low4s_len, lowB_len, lowB_len]
/-- A built block tells its entries. -/
theorem buildB_one {es fs : List En} (hg : GoodE es) (hr : risesFrom es = true) (gg : GoodE fs) (gr : risesFrom fs = true) {s u : Nat} (h : buildB s es = buildB u fs) : es = fs ∧ bodyB s es = bodyB u fs := by
  have hbody : bodyB s es = bodyB u fs := by
    have h1 := congrArg List.length h
    unfold buildB at h h1
    have h2 : (sumB (bodyB s es)).length = 4 := lowB_len _ _
    have h3 : (sumB (bodyB u fs)).length = 4 := lowB_len _ _
    rw [List.length_append, List.length_append, h2, h3] at h1
    exact (List.append_inj h (by omega)).1
  refine ⟨?_, hbody⟩
  have hb := hbody
  unfold bodyB at hb
  have e1 := endsB_len s es es.length
  have e2 := endsB_len u fs fs.length
  have g1 := hg.len
  have g2 := gg.len
  have hl := congrArg List.length hb
  simp only [List.length_append, low4s_len, lowB_len] at hl
  have hc := List.append_inj_right' hb (by rw [lowB_len, lowB_len])
  have hcnt := lowB_inj (n := 4) (by omega) (by omega) hc
  have hfront := List.append_inj_left' hb (by rw [lowB_len, lowB_len])
  have hout := (List.append_inj hfront (by omega)).1
  have l1 := loose_built hg hr s
  have l2 := loose_built gg gr u
  rw [hout] at l1
  -- both stand in the same bytes
  have key : ∀ (es fs : List En) (xs last : List Int) (a : Nat), Loose xs a last es → Loose xs a last fs → es = fs := by
    intro es
    induction es with
    | nil =>
      intro fs xs last a h1 h2
      exact (((loose_end (last := last) (show a = xs.length from h1)) fs).1 h2).symm
    | cons e r ih =>
      intro fs xs last a h1 h2
      obtain ⟨t, hs, hrr⟩ := h1
      have hlt : a < xs.length := by have := hs.grow; omega
      obtain ⟨s', rfl, hl⟩ := ((loose_step hlt hs) fs).1 h2
      rw [ih s' xs (kb e.k) t hrr hl]
  exact key es fs _ _ _ l1 l2
end Go.Proofs.Ytinffeffffligaa.Bas
