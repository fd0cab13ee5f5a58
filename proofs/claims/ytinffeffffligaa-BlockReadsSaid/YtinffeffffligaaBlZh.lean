import Derived.Test.YtinffeffffligaaBlZc
set_option linter.unusedVariables false
set_option linter.unusedSimpArgs false
namespace Go.Proofs.Ytinffeffffligaa.Bas
open Go.RowKit Go.Maps

/-! ### What the reader of a block finds, in plain words -/
def multB (s : Nat) : Nat → List Nat
  | 0 => []
  | i + 1 => if i % s = 0 then multB s i ++ [i] else multB s i
theorem multB_lt (s : Nat) : ∀ i, ∀ x ∈ multB s i, x < i
  | 0, x, h => by cases h
  | i + 1, x, h => by
    unfold multB at h
    split at h
    · rcases List.mem_append.1 h with h | h
      · have := multB_lt s i x h; omega
      · rw [List.mem_singleton.1 h]; omega
    · have := multB_lt s i x h; omega
theorem lastB_congr {es fs : List En} {i : Nat} (h : ∀ j, j < i → es.getD j enD = fs.getD j enD) : lastB es i = lastB fs i := by
  unfold lastB
  split
  · rfl
  · rw [h (i - 1) (by omega)]
theorem outB_congr (s : Nat) {es fs : List En} : ∀ i, (∀ j, j < i → es.getD j enD = fs.getD j enD) → outB s es i = outB s fs i
  | 0, _ => rfl
  | i + 1, h => by
    have h1 := outB_congr s i (fun j hj => h j (by omega))
    have h2 := lastB_congr (es := es) (fs := fs) (i := i) (fun j hj => h j (by omega))
    show outB s es i ++ _ = outB s fs i ++ _
    unfold comB
    rw [h1, h2, h i (by omega)]
theorem endsB_congr (s : Nat) {es fs : List En} : ∀ i, (∀ j, j < i → es.getD j enD = fs.getD j enD) → endsB s es i = endsB s fs i
  | 0, _ => rfl
  | i + 1, h => by
    have h1 := endsB_congr s (es := es) (fs := fs) i (fun j hj => h j (by omega))
    unfold endsB
    rw [h1, outB_congr s i (fun j hj => h j (by omega))]
theorem snoc_getD (es : List En) (e : En) {j : Nat} (h : j < es.length) : (es ++ [e]).getD j enD = es.getD j enD := by
  simp [List.getD, List.getElem?_append_left h]
theorem snoc_last (es : List En) (e : En) : (es ++ [e]).getD es.length enD = e := by simp [List.getD]
theorem take_get (es : List En) {i j : Nat} (h : j < i) : (es.take i).getD j enD = es.getD j enD := by
  simp [List.getD, List.getElem?_take_of_lt h]
theorem encE_pos (last k v : List Int) (c : Nat) : 0 < (encE last k c v).length := by
  unfold encE
  have := varB_pos c
  simp only [List.length_append]
  omega
theorem outB_lt (s : Nat) (es : List En) (i : Nat) : (outB s es i).length < (outB s es (i + 1)).length := by
  show _ < (outB s es i ++ _).length
  rw [List.length_append]
  have := encE_pos (lastB es i) (kb (es.getD i enD).k) (es.getD i enD).val (comB s es i)
  omega
theorem outB_mono (s : Nat) (es : List En) (i : Nat) : ∀ d, (outB s es i).length ≤ (outB s es (i + d)).length
  | 0 => Nat.le_refl _
  | d + 1 => Nat.le_trans (outB_mono s es i d) (Nat.le_of_lt (outB_lt s es (i + d)))
theorem endsB_pre (s : Nat) (es : List En) (i : Nat) : ∀ d, ∃ r, endsB s es (i + d) = endsB s es i ++ r ∧ ∀ x ∈ r, (outB s es i).length ≤ x
  | 0 => ⟨[], by simp, fun x hx => by cases hx⟩
  | d + 1 => by
    obtain ⟨r, h1, h2⟩ := endsB_pre s es i d
    by_cases hm : (i + d) % s = 0
    · refine ⟨r ++ [(outB s es (i + d)).length], ?_, fun x hx => ?_⟩
      · show (if (i + d) % s = 0 then endsB s es (i + d) ++ [(outB s es (i + d)).length] else endsB s es (i + d)) = _
        rw [if_pos hm, h1, List.append_assoc]
      · rcases List.mem_append.1 hx with hx | hx
        · exact h2 x hx
        · rw [List.mem_singleton.1 hx]; exact outB_mono s es i d
    · refine ⟨r, ?_, h2⟩
      show (if (i + d) % s = 0 then endsB s es (i + d) ++ [(outB s es (i + d)).length] else endsB s es (i + d)) = _
      rw [if_neg hm, h1]
theorem endsB_mult (s : Nat) (es : List En) : ∀ i, (endsB s es i).length = (multB s i).length
  | 0 => rfl
  | i + 1 => by
    unfold endsB multB
    split
    · rw [List.length_append, List.length_append, endsB_mult s es i]; rfl
    · exact endsB_mult s es i
theorem StepE.one {xs last : List Int} {rs : Bool} {es : List En} {at_ : Nat} {e f : En} {t u : Nat} (h : StepE xs last rs es at_ e t) (g : StepE xs last rs es at_ f u) : e = f ∧ t = u := by
  obtain ⟨t1, t2, t3, T, k1, k2⟩ := h.three
  obtain ⟨g1, g2, g3⟩ := T.only g
  have ek : e.k = f.k := key_one h.right.key h.seq g.right.key g.seq (k1.symm.trans g1.symm)
  have ev : e.val = f.val := k2.symm.trans g2.symm
  have ef : e = f := by
    obtain ⟨a, b⟩ := e
    obtain ⟨c, d⟩ := f
    simp only at ek ev
    rw [ek, ev]
  subst ef
  exact ⟨rfl, h.len.trans g.len.symm⟩
/-- Bytes and restarts that were built. -/
structure Fit (xs : List Int) (R : List Nat) (es : List En) (s : Nat) : Prop where
  good : GoodE es
  rise : risesFrom es = true
  low : 1 ≤ s
  out : xs = outB s es es.length
  ends : R = endsB s es es.length
/-- What was read so far: the entries, which of them begin anew, the place, the key ahead, how many restarts. -/
structure Rn (xs : List Int) (R : List Nat) (es : List En) (bs : List Nat) (a : Nat) (last : List Int) (k : Nat) : Prop where
  good : GoodE es
  rise : risesFrom es = true
  lst : last = lastB es es.length
  kl : k = bs.length
  kR : k ≤ R.length
  low : ∀ b ∈ bs, b < es.length
  asc : List.Pairwise (· < ·) bs
  le : a ≤ xs.length
  fit : ∀ s, bs = multB s es.length → xs.take a = outB s es es.length ∧ R.take k = endsB s es es.length
  only : ∀ fs s, Fit xs R fs s → es.length ≤ fs.length ∧ es = fs.take es.length ∧ a = (outB s fs es.length).length ∧ bs = multB s es.length ∧ R.take k = endsB s fs es.length
theorem rn_none (xs : List Int) (R : List Nat) : Rn xs R [] [] 0 [] 0 :=
  ⟨⟨fun j h => absurd h (Nat.not_lt_zero j), fun j h => absurd h (Nat.not_lt_zero j), fun j h => absurd h (Nat.not_lt_zero j), Nat.zero_le _⟩, rfl, rfl, rfl, Nat.zero_le _, (fun b h => by cases h), List.Pairwise.nil, Nat.zero_le _,
    fun s _ => ⟨rfl, rfl⟩, fun fs s _ => ⟨Nat.zero_le _, rfl, rfl, rfl, rfl⟩⟩
theorem lastK_take {fs : List En} {i : Nat} (h : 0 < i) (hi : i ≤ fs.length) : lastK (fs.take i) = (fs.getD (i - 1) enD).k := by
  unfold lastK
  rw [List.length_take, Nat.min_eq_left hi, take_get fs (by omega)]
theorem Rn.next {xs : List Int} {R : List Nat} {es : List En} {bs : List Nat} {a : Nat} {last : List Int} {k : Nat} (h : Rn xs R es bs a last k) (hlt : a < xs.length) {fs : List En} {s : Nat} (hf : Fit xs R fs s) :
    es.length < fs.length ∧ decide (R[k]? = some a) = decide (es.length % s = 0) ∧ StepE xs last (decide (R[k]? = some a)) es a (fs.getD es.length enD) (outB s fs (es.length + 1)).length := by
  obtain ⟨h1, h2, h3, h4, h5⟩ := h.only fs s hf
  have hlen : es.length < fs.length := by
    rcases Nat.lt_or_ge es.length fs.length with hl | hl
    · exact hl
    · exfalso
      have : es.length = fs.length := by omega
      rw [this, ← hf.out] at h3
      omega
  have hk : k = (endsB s fs es.length).length := by rw [← h5, List.length_take]; have := h.kR; omega
  obtain ⟨r, e1, e2⟩ := endsB_pre s fs (es.length + 1) (fs.length - (es.length + 1))
  rw [show es.length + 1 + (fs.length - (es.length + 1)) = fs.length by omega, ← hf.ends] at e1
  have hd : decide (R[k]? = some a) = decide (es.length % s = 0) := by
    by_cases hm : es.length % s = 0
    · have e3 : endsB s fs (es.length + 1) = endsB s fs es.length ++ [(outB s fs es.length).length] := by
        show (if _ then _ else _) = _
        rw [if_pos hm]
      rw [decide_eq_true hm]
      refine decide_eq_true ?_
      rw [e1, e3, List.append_assoc, List.getElem?_append_right (by omega), hk]
      simp [h3]
    · have e3 : endsB s fs (es.length + 1) = endsB s fs es.length := by
        show (if _ then _ else _) = _
        rw [if_neg hm]
      rw [decide_eq_false hm]
      refine decide_eq_false (fun hc => ?_)
      rw [e1, e3, List.getElem?_append_right (by omega), hk, Nat.sub_self] at hc
      have hmem := List.mem_of_getElem? hc
      have h6 := e2 a hmem
      have h7 := outB_lt s fs es.length
      omega
  refine ⟨hlen, hd, ?_⟩
  have hst := step_at hf.good hf.rise s hlen
  rw [← hf.out] at hst
  rw [hd, h.lst, h3]
  have hl : lastB es es.length = lastB fs es.length := lastB_congr (fun j hj => by
    conv => lhs; rw [h2]
    exact take_get fs hj)
  rw [hl]
  conv at hst => arg 4; rw [← h2]
  exact hst
theorem good_snoc {es : List En} {e : En} (h : GoodE es) (hr : RightE e) (h0 : 0 ≤ e.k.seq) (hb : Byt e.k.key ∧ Byt e.val) (hl : es.length + 1 ≤ 10000) : GoodE (es ++ [e]) := by
  have key : ∀ (P : En → Prop), (∀ j, j < es.length → P (es.getD j enD)) → P e → ∀ j, j < (es ++ [e]).length → P ((es ++ [e]).getD j enD) := fun P h1 h2 j hj => by
    rw [List.length_append, List.length_singleton] at hj
    rcases Nat.lt_or_ge j es.length with h | h
    · rw [snoc_getD es e h]; exact h1 j h
    · obtain rfl : j = es.length := by omega
      rw [snoc_last]; exact h2
  exact ⟨key _ h.right hr, key (fun e => 0 ≤ e.k.seq) h.seq h0, key (fun e => Byt e.k.key ∧ Byt e.val) h.byt hb, by rw [List.length_append]; exact hl⟩
theorem rise_snoc : ∀ {es : List En} {e : En}, risesFrom es = true → (0 < es.length → keyCmp (lastK es) e.k < 0) → risesFrom (es ++ [e]) = true
  | [], e, _, _ => rfl
  | [a], e, _, h => by
    have := h (by simp)
    simp only [List.cons_append, List.nil_append, risesFrom, Bool.and_true, decide_eq_true_eq]
    simpa [lastK] using this
  | a :: b :: r, e, hr, h => by
    simp only [risesFrom, Bool.and_eq_true, decide_eq_true_eq] at hr
    have ih := rise_snoc (es := b :: r) (e := e) hr.2 (fun _ => by
      have := h (by simp)
      simpa [lastK] using this)
    simp only [List.cons_append, risesFrom, Bool.and_eq_true, decide_eq_true_eq]
    exact ⟨hr.1, by simpa using ih⟩
theorem Rn.step {xs : List Int} {R : List Nat} {es : List En} {bs : List Nat} {a : Nat} {last : List Int} {k : Nat} (h : Rn xs R es bs a last k) (hlt : a < xs.length) {rs : Bool} (hrs : rs = decide (R[k]? = some a)) {e : En} {t : Nat}
    (hs : StepE xs last rs es a e t) (hb : Byt e.k.key ∧ Byt e.val) : Rn xs R (es ++ [e]) (if rs then bs ++ [es.length] else bs) t (kb e.k) (if rs then k + 1 else k) := by
  have hsnoc : (es ++ [e]).length = es.length + 1 := by simp
  have hkl := h.kl
  refine ⟨good_snoc h.good hs.right hs.seq hb hs.short, rise_snoc h.rise hs.rise, ?_, ?_, ?_, ?_, ?_, hs.le, ?_, ?_⟩
  · rw [hsnoc, lastB_succ, snoc_last]
  · cases rs <;> simp [hkl]
  · cases rs
    · exact h.kR
    · have h1 := of_decide_eq_true hrs.symm
      have := (List.getElem?_eq_some_iff.1 h1).1
      simp
      omega
  · intro b hm
    rw [hsnoc]
    cases rs
    · have := h.low b hm; omega
    · simp only [if_true] at hm
      rcases List.mem_append.1 hm with hm | hm
      · have := h.low b hm; omega
      · rw [List.mem_singleton.1 hm]; omega
  · cases rs
    · exact h.asc
    · simp only [if_true]
      rw [List.pairwise_append]
      exact ⟨h.asc, List.pairwise_singleton _ _, fun x hx y hy => by rw [List.mem_singleton.1 hy]; exact h.low x hx⟩
  · intro s hm
    rw [hsnoc] at hm ⊢
    have hpart : bs = multB s es.length ∧ rs = decide (es.length % s = 0) := by
      unfold multB at hm
      cases rs
      · simp only [Bool.false_eq_true, if_false] at hm
        by_cases hz : es.length % s = 0
        · rw [if_pos hz] at hm
          exfalso
          have := h.low es.length (by rw [hm]; simp)
          omega
        · rw [if_neg hz] at hm
          exact ⟨hm, (decide_eq_false hz).symm⟩
      · simp only [if_true] at hm
        by_cases hz : es.length % s = 0
        · rw [if_pos hz] at hm
          exact ⟨List.append_cancel_right hm, (decide_eq_true hz).symm⟩
        · rw [if_neg hz] at hm
          exfalso
          have := multB_lt s es.length es.length (by rw [← hm]; simp)
          omega
    obtain ⟨f1, f2⟩ := h.fit s hpart.1
    have o1 : outB s (es ++ [e]) es.length = outB s es es.length := outB_congr s _ (fun j hj => snoc_getD es e hj)
    have l1 : lastB (es ++ [e]) es.length = last := by rw [h.lst]; exact lastB_congr (fun j hj => snoc_getD es e hj)
    have c1 : comB s (es ++ [e]) es.length = wantB rs last (kb e.k) := by
      rw [comB_want, l1, snoc_last, hpart.2]
    constructor
    · show xs.take t = outB s (es ++ [e]) es.length ++ encE _ _ _ _
      rw [o1, l1, c1, snoc_last, ← f1]
      have hl := hs.len
      have heq := hs.eq
      have e1 : xs.take t = xs.take a ++ (xs.drop a).take (t - a) := by
        rw [show t = a + (t - a) by omega, List.take_add, show a + (t - a) - a = t - a by omega]
      rw [e1, heq, List.take_left' (by omega)]
    · have r1 : endsB s (es ++ [e]) es.length = endsB s es es.length := endsB_congr s _ (fun j hj => snoc_getD es e hj)
      unfold endsB
      rw [r1, o1, ← f2, ← f1]
      cases rs
      · rw [if_neg (of_decide_eq_false hpart.2.symm)]; rfl
      · rw [if_pos (of_decide_eq_true hpart.2.symm)]
        have h1 := of_decide_eq_true hrs.symm
        simp only [if_true]
        rw [List.take_add_one, h1, List.length_take]
        have := h.le
        rw [Nat.min_eq_left this]
        rfl
  · intro fs s hf
    obtain ⟨h1, h2, h3⟩ := h.next hlt hf
    rw [← hrs] at h2 h3
    obtain ⟨e1, e2⟩ := hs.one h3
    obtain ⟨p1, p2, p3, p4, p5⟩ := h.only fs s hf
    rw [hsnoc]
    have hk : k = (endsB s fs es.length).length := by rw [← p5, List.length_take]; have := h.kR; omega
    refine ⟨h1, ?_, e2, ?_, ?_⟩
    · have e3 : fs[es.length] = e := by rw [e1]; simp [List.getD, h1]
      rw [List.take_succ_eq_append_getElem h1, e3, ← p2]
    · unfold multB
      rw [← p4]
      cases rs
      · rw [if_neg (of_decide_eq_false h2.symm)]; rfl
      · rw [if_pos (of_decide_eq_true h2.symm)]; rfl
    · unfold endsB
      rw [← p5, ← p3]
      cases rs
      · rw [if_neg (of_decide_eq_false h2.symm)]; rfl
      · rw [if_pos (of_decide_eq_true h2.symm)]
        have h1 := of_decide_eq_true hrs.symm
        simp only [if_true]
        rw [List.take_add_one, h1]
        rfl
theorem Rn.fails {xs : List Int} {R : List Nat} {es : List En} {bs : List Nat} {a : Nat} {last : List Int} {k : Nat} (h : Rn xs R es bs a last k) (hlt : a < xs.length) {rs : Bool} (hrs : rs = decide (R[k]? = some a)) (hn : ∀ e t, ¬ StepE xs last rs es a e t) : ∀ fs s, ¬ Fit xs R fs s := fun fs s hf => by
  obtain ⟨_, _, h3⟩ := h.next hlt hf
  rw [← hrs] at h3
  exact hn _ _ h3
theorem Rn.done {xs : List Int} {R : List Nat} {es : List En} {bs : List Nat} {a : Nat} {last : List Int} {k : Nat} (h : Rn xs R es bs a last k) (ha : a = xs.length) {fs : List En} {s : Nat} (hf : Fit xs R fs s) : fs = es ∧ k = R.length ∧ bs = multB s es.length := by
  obtain ⟨h1, h2, h3, h4, h5⟩ := h.only fs s hf
  have hlen : es.length = fs.length := by
    rcases Nat.lt_or_ge es.length fs.length with hl | hl
    · exfalso
      have e1 := outB_lt s fs es.length
      have e2 := outB_mono s fs (es.length + 1) (fs.length - (es.length + 1))
      rw [show es.length + 1 + (fs.length - (es.length + 1)) = fs.length by omega, ← hf.out] at e2
      omega
    · omega
  refine ⟨by rw [h2, hlen, List.take_length], ?_, h4⟩
  have h6 := h.kR
  have h7 := congrArg List.length h5
  rw [hlen, ← hf.ends, List.length_take] at h7
  omega
theorem Rn.fits {xs : List Int} {R : List Nat} {es : List En} {bs : List Nat} {a : Nat} {last : List Int} {k : Nat} (h : Rn xs R es bs a last k) (ha : a = xs.length) (hk : k = R.length) {s : Nat} (hs : 1 ≤ s) (hb : bs = multB s es.length) : Fit xs R es s := by
  obtain ⟨h1, h2⟩ := h.fit s hb
  rw [ha, List.take_length] at h1
  rw [hk, List.take_length] at h2
  exact ⟨h.good, h.rise, hs, h1, h2⟩
end Go.Proofs.Ytinffeffffligaa.Bas
