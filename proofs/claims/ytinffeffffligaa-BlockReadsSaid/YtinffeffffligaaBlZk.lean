import Derived.Test.YtinffeffffligaaBlZi
set_option linter.unusedVariables false
set_option linter.unusedSimpArgs false
namespace Go.Proofs.Ytinffeffffligaa.Bas
open Go.RowKit Go.Maps

/-! ### Of which steps entries may be built -/
theorem ceil_step {s i : Nat} (hs : 1 ≤ s) : (i + 1 + s - 1) / s = if i % s = 0 then (i + s - 1) / s + 1 else (i + s - 1) / s := by
  have h1 := Nat.div_add_mod i s
  have h2 := Nat.mod_lt i (show 0 < s by omega)
  generalize hq : i / s = q at h1
  generalize hr : i % s = r at h1 h2
  have e1 : i + 1 + s - 1 = s * (q + 1) + r := by rw [Nat.mul_add, Nat.mul_one]; omega
  by_cases h0 : r = 0
  · subst h0
    rw [if_pos rfl, e1, Nat.add_zero, Nat.mul_div_cancel_left _ (by omega)]
    have e2 : i + s - 1 = s * q + (s - 1) := by omega
    rw [e2, Nat.mul_add_div (by omega), Nat.div_eq_of_lt (by omega)]
  · rw [if_neg h0, e1, Nat.mul_add_div (by omega), Nat.div_eq_of_lt h2]
    have e2 : i + s - 1 = s * (q + 1) + (r - 1) := by rw [Nat.mul_add, Nat.mul_one]; omega
    rw [e2, Nat.mul_add_div (by omega), Nat.div_eq_of_lt (by omega)]
theorem multB_eq {s : Nat} (hs : 1 ≤ s) : ∀ i, multB s i = (List.range ((i + s - 1) / s)).map (fun j => j * s)
  | 0 => by rw [Nat.div_eq_of_lt (by omega)]; rfl
  | i + 1 => by
    have ih := multB_eq hs i
    unfold multB
    rw [ceil_step hs]
    by_cases hm : i % s = 0
    · rw [if_pos hm, if_pos hm, List.range_succ, List.map_append, ← ih]
      have h1 := Nat.div_add_mod i s
      generalize i / s = q at h1
      have e2 : i + s - 1 = s * q + (s - 1) := by omega
      rw [e2, Nat.mul_add_div (by omega), Nat.div_eq_of_lt (by omega)]
      simp only [Nat.add_zero, List.map_cons, List.map_nil]
      rw [Nat.mul_comm q s, show s * q = i by omega]
    · rw [if_neg hm, if_neg hm, ih]
theorem ceil_one {s n m : Nat} (hs : 1 ≤ s) (h1 : (m - 1) * s < n) (h2 : n ≤ m * s) (hm : 1 ≤ m) : (n + s - 1) / s = m := by
  obtain ⟨q, rfl⟩ : ∃ q, m = q + 1 := ⟨m - 1, by omega⟩
  rw [Nat.add_sub_cancel] at h1
  rw [Nat.add_mul, Nat.one_mul] at h2
  have e : n + s - 1 = s * (q + 1) + (n - 1 - q * s) := by rw [Nat.mul_add, Nat.mul_one, Nat.mul_comm s q]; omega
  rw [e, Nat.mul_add_div (by omega), Nat.div_eq_of_lt (by omega)]
theorem ceil_mul {s n : Nat} (hs : 1 ≤ s) (hn : 1 ≤ n) : ((n + s - 1) / s - 1) * s < n ∧ n ≤ ((n + s - 1) / s) * s ∧ 1 ≤ (n + s - 1) / s := by
  have h1 := Nat.div_add_mod (n + s - 1) s
  have h2 := Nat.mod_lt (n + s - 1) (show 0 < s by omega)
  generalize hq : (n + s - 1) / s = q at h1
  have h3 : 1 ≤ q := by
    rcases Nat.eq_zero_or_pos q with h | h
    · subst h; rw [Nat.mul_zero] at h1; omega
    · exact h
  obtain ⟨p, rfl⟩ : ∃ p, q = p + 1 := ⟨q - 1, by omega⟩
  rw [Nat.mul_add, Nat.mul_one] at h1
  rw [Nat.add_sub_cancel, Nat.add_mul, Nat.one_mul, Nat.mul_comm p s]
  omega
theorem multB_len {s : Nat} (hs : 1 ≤ s) (n : Nat) : (multB s n).length = (n + s - 1) / s := by rw [multB_eq hs, List.length_map, List.length_range]
theorem multB_get {s : Nat} (hs : 1 ≤ s) {n j : Nat} (h : j < (multB s n).length) : (multB s n).getD j 0 = j * s := by
  rw [multB_len hs] at h
  rw [multB_eq hs]
  simp [List.getD, h]
/-- The begins are as from this step. -/
theorem steps_good {bs : List Nat} {n st : Nat} (h2 : 2 ≤ bs.length) (hst : 1 ≤ st) (hall : ∀ j, j < bs.length → bs.getD j 0 = j * st) (h1 : (bs.length - 1) * st < n) (h3 : n ≤ bs.length * st) : bs = multB st n := by
  have hl : (multB st n).length = bs.length := by rw [multB_len hst, ceil_one hst h1 h3 (by omega)]
  apply List.ext_getElem hl.symm
  intro j hj hj2
  have e1 := hall j hj
  have e2 := multB_get hst (n := n) (j := j) hj2
  simp [List.getD, hj] at e1
  simp [List.getD, hj2] at e2
  rw [e1, e2]
theorem steps_two {bs : List Nat} {n s : Nat} (h2 : 2 ≤ bs.length) (hs : 1 ≤ s) (h : bs = multB s n) : bs.getD 1 0 = s ∧ (∀ j, j < bs.length → bs.getD j 0 = j * s) ∧ (bs.length - 1) * s < n ∧ n ≤ bs.length * s := by
  have hl : bs.length = (n + s - 1) / s := by rw [h, multB_len hs]
  have hg : ∀ j, j < bs.length → bs.getD j 0 = j * s := fun j hj => by
    have := multB_get hs (n := n) (j := j) (by rw [← h]; exact hj)
    rw [← h] at this
    exact this
  have hn : 1 ≤ n := by
    rcases Nat.eq_zero_or_pos n with h0 | h0
    · subst h0
      rw [Nat.div_eq_of_lt (by omega)] at hl
      omega
    · exact h0
  obtain ⟨c1, c2, c3⟩ := ceil_mul hs hn
  rw [← hl] at c1 c2
  exact ⟨by rw [hg 1 (by omega), Nat.one_mul], hg, c1, c2⟩
theorem steps_none {n s : Nat} (hs : 1 ≤ s) (hn : n ≠ 0) : ([] : List Nat) ≠ multB s n := fun h => by
  have hl := multB_len hs n
  rw [← h] at hl
  have := (ceil_mul hs (show 1 ≤ n by omega)).2.2
  rw [← hl] at this
  cases this
theorem steps_one {n s b : Nat} (hs : 1 ≤ s) (h : [b] = multB s n) : b = 0 ∧ n ≤ s := by
  have hl := multB_len hs n
  rw [← h] at hl
  have hg := multB_get hs (n := n) (j := 0) (by rw [← h]; simp)
  rw [← h, Nat.zero_mul] at hg
  refine ⟨by simpa using hg, ?_⟩
  have hn : 1 ≤ n := by
    rcases Nat.eq_zero_or_pos n with h0 | h0
    · subst h0
      rw [Nat.div_eq_of_lt (by omega)] at hl
      cases hl
    · exact h0
  have := (ceil_mul hs hn).2.1
  rw [← hl] at this
  simpa using this
theorem steps_zero {n : Nat} (hn : 1 ≤ n) : [0] = multB n n := by
  rw [multB_eq hn, ceil_one hn (m := 1) (by omega) (by omega) (by omega)]
  simp [List.range_succ]
theorem asc_len {bs : List Nat} {m : Nat} (ha : List.Pairwise (· < ·) bs) (hl : ∀ b ∈ bs, b < m) : bs.length ≤ m := by
  have h : ∀ j, j < bs.length → j ≤ bs.getD j 0 := by
    intro j
    induction j with
    | zero => intro _; exact Nat.zero_le _
    | succ j ih =>
      intro hj
      have h1 := ih (by omega)
      have h2 := List.pairwise_iff_getElem.1 ha j (j + 1) (by omega) hj (by omega)
      simp [List.getD, hj, show j < bs.length by omega] at h1 ⊢
      omega
  rcases Nat.eq_zero_or_pos bs.length with h0 | h0
  · omega
  · have h1 := h (bs.length - 1) (by omega)
    have h2 := hl (bs.getD (bs.length - 1) 0) (by simp [List.getD, show bs.length - 1 < bs.length by omega])
    omega
theorem Nu.cells {k : IntKind} {e : TypeId} {B : Nat} {w : World} {A : Option Addr} {n c : Nat} {xs : List Int} (h : Nu k e B w (.slice A n c) xs) (hn : 0 < n) : ∃ q, A = some ⟨q, 0, none⟩ ∧ ∀ j, j < n → w.cell? ⟨q, j, none⟩ = some (.int k (xs.getD j 0)) := by
  have hl : n = xs.length := by
    obtain ⟨A1, c1, e1⟩ := h.slice
    injection e1
  rcases h.own.2 with ⟨e1, e2⟩ | ⟨q, cap, cur, e1, hB, hh, h3, h4, h5, h6⟩
  · injection e1; omega
  · injection e1 with e1 e3 e4
    subst e1 e4
    refine ⟨q, rfl, fun j hj => ?_⟩
    have hj2 : j < xs.length := by omega
    have := h.own.cells (g := q) rfl j (.int k (xs.getD j 0)) (by simp [nums, List.getD, hj2])
    rw [Addr.add_lit, Nat.zero_add] at this
    exact this
/-- What steps tells. -/
def StP (bs : List Nat) (n : Nat) (w : World) (e : Ending) (w' : World) : Prop :=
  Below w.heap.size w w' ∧ ∃ lo hi : Int, e = .returned (.tuple #[.int .i64 lo, .int .i64 hi]) ∧
    ((∃ s : Nat, lo = (s : Int) ∧ 1 ≤ s ∧ s ≤ 100 ∧ lo ≤ hi ∧ bs = multB s n) ∨ (hi < lo ∧ ∀ s, 1 ≤ s → s ≤ 100 → bs ≠ multB s n))
attribute [local go_sem] min2_int min_two
set_option maxHeartbeats 8000000 in
set_option maxRecDepth 100000 in
theorem reader_steps {w : World} {B g : Nat} {v0 v1 v2 v5 : Value} {Ao Ab : Option Addr} {n co nb cb : Nat} {bs : List Nat}
    (hg : w.heap[g]? = some (.cells #[v0, v1, v2, .slice Ao n co, .slice Ab nb cb, v5] 87 (0, 0))) (hb : Nu .i64 3 B w (.slice Ab nb cb) (intsN bs)) (hn : n ≤ 10000) (hlow : ∀ b ∈ bs, b < n) (hasc : List.Pairwise (· < ·) bs) :
    Calls Try.prog 53 #[.pointer (some ⟨g, 0, none⟩)] w (StP bs n w) := by
  have hbl : bs.length = nb := by
    obtain ⟨A1, c1, e1⟩ := hb.slice
    injection e1 with _ e1
    rw [e1, intsN_len]
  have hnbn := asc_len hasc hlow
  rw [hbl] at hnbn
  have c3 := cells_top hg 3 (.slice Ao n co) rfl
  have c4 := cells_top hg 4 (.slice Ab nb cb) rfl
  have HG := Kp.mk hg
  have HB := Kp.mk hb
  have HLow := Kp.mk hlow
  have HAsc := Kp.mk hasc
  have HBL := Kp.mk hbl
  clear hg hb hlow hasc hbl
  by_cases h0 : nb = 0
  · subst h0
    have hbs : bs = [] := List.eq_nil_of_length_eq_zero HBL.out
    by_cases hn0 : n = 0
    · subst hn0
      have HF : Kp (bs = multB 1 0) := ⟨hbs⟩
      clear hbs
      go_enter Try.func53, Try.ntmps53
      go_wp2_with fail
      go_ret2
      exact ⟨Below.refl _ _, _, _, rfl, .inl ⟨1, rfl, by omega, by omega, by omega, HF.out⟩⟩
    · have HF : Kp (∀ s, 1 ≤ s → s ≤ 100 → bs ≠ multB s n) := ⟨fun s h1 h2 => by rw [hbs]; exact steps_none h1 hn0⟩
      have hn1 : ((n : Int) == 0) = false := by rw [beq_eq_false_iff_ne]; omega
      clear hbs hn0
      go_enter Try.func53, Try.ntmps53
      go_wp2_with fail
      go_ret2
      exact ⟨Below.refl _ _, _, _, rfl, .inr ⟨by omega, HF.out⟩⟩
  · obtain ⟨qb, hAd, hcd⟩ := HB.out.cells (by omega)
    subst hAd
    by_cases h1 : nb = 1
    · subst h1
      obtain ⟨b, hbs⟩ : ∃ b, bs = [b] := List.length_eq_one_iff.1 HBL.out
      have hbn : b < n := HLow.out b (by rw [hbs]; simp)
      have q0 := hcd 0 (by omega)
      rw [intsN_get bs (by rw [hbs]; simp), hbs] at q0
      have q0' : w.cell? ⟨qb, 0, none⟩ = some (.int .i64 (b : Int)) := q0
      clear hcd q0
      by_cases hb0 : b = 0
      · subst hb0
        have HBs := Kp.mk hbs
        clear hbs
        go_enter Try.func53, Try.ntmps53
        go_wp2_with fail
        go_ret2
        refine ⟨Below.refl _ _, _, _, rfl, ?_⟩
        by_cases hn1 : n ≤ 100
        · exact .inl ⟨n, rfl, by omega, hn1, by omega, by rw [HBs.out]; exact steps_zero (by omega)⟩
        · exact .inr ⟨by omega, fun s s1 s2 he => by rw [HBs.out] at he; have := (steps_one s1 he).2; omega⟩
      · have HF : Kp (∀ s, 1 ≤ s → s ≤ 100 → bs ≠ multB s n) := ⟨fun s s1 s2 he => by rw [hbs] at he; exact hb0 (steps_one s1 he).1⟩
        have hb1 : ((b : Int) == 0) = false := by rw [beq_eq_false_iff_ne]; omega
        have hb2 : ((b : Int) != 0) = true := by rw [bne_iff_ne]; omega
        clear hbs hb0
        go_enter Try.func53, Try.ntmps53
        go_wp2_with fail
        go_ret2
        exact ⟨Below.refl _ _, _, _, rfl, .inr ⟨by omega, HF.out⟩⟩
    · obtain ⟨st, hst⟩ : ∃ st, st = bs.getD 1 0 := ⟨_, rfl⟩
      have hb2 : 2 ≤ bs.length := by have := HBL.out; omega
      have hst1 : 1 ≤ st := by
        have h2 := List.pairwise_iff_getElem.1 HAsc.out 0 1 (by omega) (by omega) (by omega)
        rw [hst]
        simp [List.getD, show 1 < bs.length by omega]
        omega
      have hstn : st < n := HLow.out st (by rw [hst]; simp [List.getD, show 1 < bs.length by omega])
      have hn0 : ((nb : Int) == 0) = false := by rw [beq_eq_false_iff_ne]; omega
      have hn1 : ((nb : Int) == 1) = false := by rw [beq_eq_false_iff_ne]; omega
      have q1 := hcd 1 (by omega)
      rw [intsN_get bs (by omega), ← hst] at q1
      have hn2 : 1 < nb := by omega
      have hn3 : ¬ nb ≤ 1 := by omega
      have HCD := Kp.mk hcd
      have HST := Kp.mk hst
      have Hb2 := Kp.mk hb2
      clear hcd hst hb2 h0 h1
      go_enter Try.func53, Try.ntmps53
      go_wp2_with fail
      go_loopw [43] (fun i wr => ∃ j : Nat, i = .int .i64 (j : Nat) ∧ j ≤ nb ∧ Kp (∀ y, y < j → bs.getD y 0 = y * st) ∧ wr = w) (fun i _ => nb - (intOf i).toNat)
      case atStart => exact ⟨0, rfl, Nat.zero_le _, ⟨fun y hy => absurd hy (Nat.not_lt_zero y)⟩, rfl⟩
      case round =>
        obtain ⟨j, rfl, hj, HJ, rfl⟩ := hrel
        by_cases hlt : j < nb
        · obtain ⟨x, hx⟩ : ∃ x, x = bs.getD j 0 := ⟨_, rfl⟩
          have qj := HCD.out j hlt
          rw [intsN_get bs (by rw [HBL.out]; exact hlt), ← hx] at qj
          obtain ⟨p, hp⟩ : ∃ p, p = j * st := ⟨_, rfl⟩
          have hpl : p ≤ 10000 * 10000 := by rw [hp]; exact Nat.mul_le_mul (by omega) (by omega)
          have hwp : IntKind.i64.wrap ((j : Int) * (st : Int)) = (p : Int) := by
            have e : (j : Int) * (st : Int) = (p : Int) := by rw [hp]; push_cast; rfl
            rw [e]
            exact IntWalk.i64_in _ (by omega)
          have hjn : ¬ nb ≤ j := by omega
          by_cases hxp : x = p
          · have HJ2 : Kp (∀ y, y < j + 1 → bs.getD y 0 = y * st) := ⟨fun y hy => by
              rcases Nat.lt_or_ge y j with h | h
              · exact HJ.out y h
              · obtain rfl : y = j := by omega
                rw [← hx, hxp, hp]⟩
            have hb1 : ((x : Int) == (p : Int)) = true := by rw [beq_iff_eq]; omega
            have hb2 : ((x : Int) != (p : Int)) = false := by rw [bne_eq_false_iff_eq]; omega
            clear hxp hp hx HJ
            go_wp2_with fail
            go_roundw
            case rel => exact ⟨j + 1, by go_num, by omega, HJ2, trivial⟩
            case measure => simp [intOf]; omega
          · have HF : Kp (∀ s, 1 ≤ s → s ≤ 100 → bs ≠ multB s n) := ⟨fun s s1 s2 he => by
              obtain ⟨e1, e2, _⟩ := steps_two Hb2.out s1 he
              have e3 := e2 j (by rw [HBL.out]; exact hlt)
              rw [← e1, ← HST.out, ← hx, ← hp] at e3
              exact hxp e3⟩
            have hb1 : ((x : Int) == (p : Int)) = false := by rw [beq_eq_false_iff_ne]; omega
            have hb2 : ((x : Int) != (p : Int)) = true := by rw [bne_iff_ne]; omega
            clear hxp hp hx HJ
            go_wp2_with fail
            go_ret2
            exact ⟨Below.refl _ _, _, _, rfl, .inr ⟨by omega, HF.out⟩⟩
        · obtain rfl : nb = j := by omega
          obtain ⟨r, hr⟩ : ∃ r, r = nb - 1 := ⟨_, rfl⟩
          obtain ⟨p, hp⟩ : ∃ p, p = r * st := ⟨_, rfl⟩
          obtain ⟨u, hu⟩ : ∃ u, u = nb * st := ⟨_, rfl⟩
          have hpl : p ≤ 10000 * 10000 := by rw [hp]; exact Nat.mul_le_mul (by omega) (by omega)
          have hul : u ≤ 10000 * 10000 := by rw [hu]; exact Nat.mul_le_mul (by omega) (by omega)
          have hwr : IntKind.i64.wrap ((nb : Int) - 1) = (r : Int) := (IntWalk.i64_in _ (by omega)).trans (by omega)
          have hwp : IntKind.i64.wrap ((r : Int) * (st : Int)) = (p : Int) := by
            have e : (r : Int) * (st : Int) = (p : Int) := by rw [hp]; push_cast; rfl
            rw [e]
            exact IntWalk.i64_in _ (by omega)
          have hwu : IntKind.i64.wrap ((nb : Int) * (st : Int)) = (u : Int) := by
            have e : (nb : Int) * (st : Int) = (u : Int) := by rw [hu]; push_cast; rfl
            rw [e]
            exact IntWalk.i64_in _ (by omega)
          have HP := Kp.mk hp
          have HU := Kp.mk hu
          have HRr := Kp.mk hr
          have b4 := blw_cell c4
          have hfail : Kp (¬ (p < n ∧ n ≤ u) → ∀ s, 1 ≤ s → s ≤ 100 → bs ≠ multB s n) := ⟨fun hno s s1 s2 he => by
            obtain ⟨e1, _, e3, e4⟩ := steps_two Hb2.out s1 he
            rw [← HST.out] at e1
            subst e1
            rw [HBL.out] at e3 e4
            rw [hp, hu, hr] at hno
            exact hno ⟨e3, e4⟩⟩
          clear hp hu hr
          by_cases hpn : n ≤ p
          · have HF := Kp.mk (hfail.out (by omega))
            have hpn' : ¬ p < n := by omega
            go_wp2_with fail
            go_ret2
            exact ⟨Below.refl _ _, _, _, rfl, .inr ⟨by omega, HF.out⟩⟩
          · by_cases hun : u < n
            · have HF := Kp.mk (hfail.out (by omega))
              have hpn' : p < n := by omega
              go_wp2_with fail
              go_ret2
              exact ⟨Below.refl _ _, _, _, rfl, .inr ⟨by omega, HF.out⟩⟩
            · have HF : Kp (bs = multB st n) := ⟨steps_good Hb2.out hst1 (fun y hy => HJ.out y (by rw [← HBL.out]; exact hy)) (by rw [HBL.out]; have := HP.out; have := HRr.out; rw [← HRr.out, ← HP.out]; omega) (by rw [HBL.out, ← HU.out]; omega)⟩
              have HF2 : Kp (∀ s, 1 ≤ s → s ≤ 100 → st ≤ 100 ∨ bs ≠ multB s n) := ⟨fun s s1 s2 => by
                by_cases he : bs = multB s n
                · left
                  have := (steps_two Hb2.out s1 he).1
                  rw [← HST.out] at this
                  omega
                · exact .inr he⟩
              have hpn' : p < n := by omega
              have hun' : n ≤ u := by omega
              go_wp2_with fail
              go_ret2
              refine ⟨Below.refl _ _, _, _, rfl, ?_⟩
              by_cases h100 : st ≤ 100
              · exact .inl ⟨st, rfl, hst1, h100, by omega, HF.out⟩
              · exact .inr ⟨by omega, fun s s1 s2 => (HF2.out s s1 s2).resolve_left h100⟩
end Go.Proofs.Ytinffeffffligaa.Bas
