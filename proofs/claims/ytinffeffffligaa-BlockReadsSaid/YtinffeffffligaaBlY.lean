import Derived.Test.YtinffeffffligaaBlV
set_option linter.unusedVariables false
set_option linter.unusedSimpArgs false
namespace Go.Proofs.Ytinffeffffligaa.Bas
open Go.RowKit Go.Maps

/-! ### An entry that stands at a place, in plain words -/
/-- How much of the key ahead an entry has: none at a restart. -/
def wantB (rs : Bool) (last k : List Int) : Nat := if rs then 0 else comN last k
theorem wantB_le (rs : Bool) (last k : List Int) : wantB rs last k ≤ last.length ∧ wantB rs last k ≤ k.length := by
  unfold wantB
  split
  · exact ⟨Nat.zero_le _, Nat.zero_le _⟩
  · exact comN_le last k
theorem wantB_take (rs : Bool) (last k : List Int) : last.take (wantB rs last k) = k.take (wantB rs last k) := by
  unfold wantB
  split
  · simp
  · exact comN_take last k
def lastK (es : List En) : Ky := (es.getD (es.length - 1) enD).k
structure StepE (xs last : List Int) (rs : Bool) (es : List En) (at_ : Nat) (e : En) (t : Nat) : Prop where
  eq : xs.drop at_ = encE last (kb e.k) (wantB rs last (kb e.k)) e.val ++ xs.drop t
  len : t = at_ + (encE last (kb e.k) (wantB rs last (kb e.k)) e.val).length
  le : t ≤ xs.length
  right : RightE e
  seq : 0 ≤ e.k.seq
  rise : 0 < es.length → keyCmp (lastK es) e.k < 0
  short : es.length + 1 ≤ 10000
/-- Three numbers stand at a place, and as many bytes. -/
structure Three (xs last : List Int) (at_ x1 x2 x3 t1 t2 t3 : Nat) : Prop where
  v1 : VarAt xs at_ x1 t1
  v2 : VarAt xs t1 x2 t2
  v3 : VarAt xs t2 x3 t3
  l1 : x1 ≤ last.length
  l2 : x2 ≤ 264
  l3 : x3 ≤ 4096
  room : t3 + (x2 + x3) ≤ xs.length
theorem varAt_drop {xs : List Int} {at_ x : Nat} {rest : List Int} (hx : x < 18446744073709551616) (h : xs.drop at_ = varB x ++ rest) : VarAt xs at_ x (at_ + (varB x).length) ∧ xs.drop (at_ + (varB x).length) = rest := by
  refine ⟨VarAt.of hx h, ?_⟩
  rw [← List.drop_drop, h, List.drop_left' rfl]
theorem drop_take_eq {xs a rest : List Int} {t : Nat} (h : xs.drop t = a ++ rest) : (xs.drop t).take a.length = a ∧ xs.drop (t + a.length) = rest := by
  refine ⟨by rw [h, List.take_left' rfl], by rw [← List.drop_drop, h, List.drop_left' rfl]⟩
theorem StepE.three {xs last : List Int} {rs : Bool} {es : List En} {at_ : Nat} {e : En} {t : Nat} (h : StepE xs last rs es at_ e t) :
    ∃ t1 t2 t3, Three xs last at_ (wantB rs last (kb e.k)) ((kb e.k).length - wantB rs last (kb e.k)) e.val.length t1 t2 t3 ∧
      last.take (wantB rs last (kb e.k)) ++ (xs.drop t3).take ((kb e.k).length - wantB rs last (kb e.k)) = kb e.k ∧
      (xs.drop (t3 + ((kb e.k).length - wantB rs last (kb e.k)))).take e.val.length = e.val := by
  obtain ⟨c, hc⟩ : ∃ c, c = wantB rs last (kb e.k) := ⟨_, rfl⟩
  have hw := wantB_le rs last (kb e.k)
  have ht := wantB_take rs last (kb e.k)
  have heq := h.eq
  have hle := h.le
  have hlen := h.len
  rw [← hc] at hw ht heq hlen ⊢
  have hk := h.right.key.len
  have hv := h.right.len
  have hkl := kb_len e.k
  unfold encE at heq hlen
  rw [List.append_assoc, List.append_assoc, List.append_assoc, List.append_assoc] at heq
  obtain ⟨v1, r1⟩ := varAt_drop (by omega) heq
  obtain ⟨v2, r2⟩ := varAt_drop (by omega) r1
  obtain ⟨v3, r3⟩ := varAt_drop (by omega) r2
  have hdl : ((kb e.k).drop c).length = (kb e.k).length - c := List.length_drop
  obtain ⟨r4, r5⟩ := drop_take_eq r3
  rw [hdl] at r4 r5
  obtain ⟨r6, _⟩ := drop_take_eq r5
  refine ⟨_, _, _, ⟨v1, v2, v3, hw.1, by omega, hv, ?_⟩, ?_, r6⟩
  · simp only [List.length_append, List.length_drop] at hlen
    omega
  · rw [r4, ht, List.take_append_drop]
theorem Three.step {xs last : List Int} {at_ x1 x2 x3 t1 t2 t3 : Nat} (h : Three xs last at_ x1 x2 x3 t1 t2 t3) {rs : Bool} {es : List En} {e : En} (hk : kb e.k = last.take x1 ++ (xs.drop t3).take x2) (hv : e.val = (xs.drop (t3 + x2)).take x3)
    (hw : x1 = wantB rs last (kb e.k)) (hr : RightE e) (h0 : 0 ≤ e.k.seq) (hri : 0 < es.length → keyCmp (lastK es) e.k < 0) (hs : es.length + 1 ≤ 10000) : StepE xs last rs es at_ e (t3 + (x2 + x3)) := by
  have hroom := h.room
  have hl1 : (last.take x1).length = x1 := by rw [List.length_take]; have := h.l1; omega
  have hl2 : ((xs.drop t3).take x2).length = x2 := by rw [List.length_take, List.length_drop]; omega
  have hl3 : e.val.length = x3 := by rw [hv, List.length_take, List.length_drop]; omega
  have hkl : (kb e.k).length - x1 = x2 := by rw [hk, List.length_append, hl1, hl2]; omega
  have hkd : (kb e.k).drop x1 = (xs.drop t3).take x2 := by rw [hk, List.drop_left' hl1]
  have e1 : encE last (kb e.k) (wantB rs last (kb e.k)) e.val = varB x1 ++ varB x2 ++ varB x3 ++ (xs.drop t3).take x2 ++ e.val := by
    unfold encE
    rw [← hw, hkl, hkd, hl3]
  have e2 : xs.drop t3 = (xs.drop t3).take x2 ++ (e.val ++ xs.drop (t3 + (x2 + x3))) := by
    rw [hv, ← Nat.add_assoc, ← List.drop_drop (i := x3), List.take_append_drop, ← List.drop_drop (i := x2), List.take_append_drop]
  have l1 := h.v1.len
  have l2 := h.v2.len
  have l3 := h.v3.len
  refine ⟨?_, ?_, hroom, hr, h0, hri, hs⟩
  · rw [e1, h.v1.eq, h.v2.eq, h.v3.eq, List.append_assoc, List.append_assoc, List.append_assoc, List.append_assoc]
    congr 3
  · rw [e1]
    simp only [List.length_append]
    rw [hl2, hl3]
    omega
/-- Where the numbers are other ones, or the rest does not fit, no entry stands. -/
theorem Three.only {xs last : List Int} {at_ x1 x2 x3 t1 t2 t3 : Nat} (h : Three xs last at_ x1 x2 x3 t1 t2 t3) {rs : Bool} {es : List En} {e : En} {t : Nat} (g : StepE xs last rs es at_ e t) :
    kb e.k = last.take x1 ++ (xs.drop t3).take x2 ∧ e.val = (xs.drop (t3 + x2)).take x3 ∧ x1 = wantB rs last (kb e.k) := by
  obtain ⟨s1, s2, s3, k, k1, k2⟩ := g.three
  obtain ⟨a1, b1⟩ := h.v1.one k.v1
  subst a1 b1
  obtain ⟨a2, b2⟩ := h.v2.one k.v2
  rw [← a2] at k1 k2
  subst b2
  obtain ⟨a3, b3⟩ := h.v3.one k.v3
  subst b3
  rw [← a3] at k2
  exact ⟨k1.symm, k2.symm, rfl⟩
end Go.Proofs.Ytinffeffffligaa.Bas
