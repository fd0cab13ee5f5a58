import Derived.Test.YtgeklapphkgdkaaDsRf
set_option linter.unusedVariables false
set_option linter.unusedSimpArgs false
namespace Go.Proofs.Ytgeklapphkgdkaa.Dsk
open Go.RowKit Go.Maps

/-! ### The reference's disk: Read -/
theorem rd_mid {w : World} {k : IntKind} {A : Option Addr} {n c a b : Nat} {xs : List Int} (h : Rd w k A n c xs) (hc : n ≤ c) (hab : a ≤ b) (hb : b ≤ n) : ∃ A', (if c = a then A else Option.map (fun x => x.add a) A) = A' ∧ Rd w k A' (b - a) (c - a) ((xs.drop a).take (b - a)) := by
  obtain ⟨A', h1, h2, _⟩ := rd_from h hc (show a ≤ n by omega)
  refine ⟨A', h1, by rw [List.length_take, h2.len]; omega, by have := h2.max; omega, fun e => by have := h2.nil e; exact ⟨by omega, this.2⟩, fun hp => ?_⟩
  obtain ⟨ad, e, hcell⟩ := h2.cell (by omega)
  refine ⟨ad, e, fun j hj => ?_⟩
  rw [hcell j (by omega)]
  simp [List.getD, List.getElem?_take_of_lt hj]
/-- append(nil, ys...): new memory. -/
theorem wpList_append_new {P : Program} {w : World} {ops : Array Oper} {rest : List Oper} {o : Oper} {a : Act} {Q : Exit → Act → World → Prop} (hgd : o.guard = none) (s x : Operand) (t e : TypeId) (k : IntKind) (bytes : Nat)
    (ho : o.op = .call { callee := .builtin .append, args := #[s, x], argTypes := #[t, t] })
    (ht : P.underlying t = some (.slice e)) (hinfo : (P.info? e).map (fun i => (i.zero, i.size, i.bytes)) = some (some (.int k 0), 1, bytes)) (hb0 : 0 < bytes)
    (m c : Nat) (ys : List Int) (A : Option Addr) (hs : a.eval s = .slice none 0 0) (hx : a.eval x = .slice A m c) (hr : Rd w k A m c ys) (hl : m * bytes ≤ 140737488355328)
    (h : ∀ A' c' w', Rd w' k A' m c' ys → m ≤ c' → (∀ ad, A' = some ad → w.heap.size ≤ ad.block) → Below w.heap.size w w' → wpList P ops Q rest (a.put o.dst (.slice A' m c')) w') :
    wpList P ops Q (o :: rest) a w :=
  wpList_append_rd w hgd s x t e k bytes w.heap.size ho ht hinfo hb0 (.slice none 0 0) 0 m c [] ys A hs hx ⟨rfl, .inl ⟨rfl, rfl⟩⟩ hr (by simpa using hl) (Nat.le_refl _) fun A' c' w' h1 h2 h3 => by
    simp only [Nat.zero_add, List.nil_append] at h1 ⊢
    have hb : Below w.heap.size w w' := (Below.refl _ _).grown h2 (Nat.le_refl _) (fun q hq => by cases hq)
    obtain ⟨g1, g2⟩ := own_rd h1 hr.max
    refine h A' c' w' g1 ?_ (fun ad e => (g2 ad e).2.1) hb
    rcases h1.2 with ⟨e1, e2⟩ | ⟨q, cap, cur, e1, hB, hh, h4, h5, _⟩
    · injection e1 with _ e1 e3
      omega
    · injection e1 with _ e1 e3
      omega
def RReadP (B g : Nat) (σ : DS) (S : Nat → Prop) (nm : ByteArray) (at_ n : Int) (w : World) (e : Ending) (w' : World) : Prop :=
  ∃ A' k c', e = .returned (.tuple #[.slice A' k c', .int .i64 (σ.read nm at_ n).1]) ∧ Rd w' .u8 A' k c' (σ.read nm at_ n).2.2 ∧ PostR B g S (σ.read nm at_ n).2.1 w w'
theorem nil_rd (w : World) (k : IntKind) : Rd w k none 0 0 [] := ⟨rfl, by omega, fun _ => ⟨rfl, rfl⟩, fun h => absurd h (by omega)⟩
set_option maxHeartbeats 4000000 in
set_option maxRecDepth 100000 in
theorem r_read {w : World} {B g : Nat} {σ : DS} {S : Nat → Prop} (h : IsR w B g σ S) (nm : ByteArray) (hs : nm.size ≤ 100000) (at_ n : Int) (ha : -9223372036854775808 ≤ at_ ∧ at_ ≤ 9223372036854775807) (hn : -9223372036854775808 ≤ n ∧ n ≤ 9223372036854775807) :
    Calls Try.prog 40 #[.pointer (some ⟨g, 0, none⟩), .string nm, .int .i64 at_, .int .i64 n] w (RReadP B g σ S nm at_ n w) := by
  obtain ⟨room, v, A, c, ps, hr⟩ := h
  obtain ⟨Av, nv, cv, rfl⟩ := hr.slice
  have HF := Kp.mk (r_found hr nm hs)
  have HE := Kp.mk (read_eq nm at_ n hr.srt)
  have HDF := Kp.mk (down_files σ).1
  obtain ⟨fr, hfr⟩ : ∃ fr, fr = foundR σ nm := ⟨_, rfl⟩
  have HFR := Kp.mk hfr
  clear hr hfr
  go_enter Try.func40, Try.ntmps40
  go_wp2_with fail
  refine HF.out.mono ?_
  rintro e w1 ⟨i, rfl, hi, hf1, A1, c1, hr1⟩
  rw [← HFR.out] at hi ⊢
  have HF1 := Kp.mk hf1
  have HR1 := Kp.mk hr1
  by_cases h0 : fr = 0
  · obtain ⟨rfl, hh⟩ := hi h0
    subst h0
    obtain ⟨hnv, hcv, hcells⟩ := hr1.cells
    obtain ⟨p, hp⟩ : ∃ p, p = posA nm.data.toList σ.files := ⟨_, rfl⟩
    have hpn : p < nv := by
      unfold hasA at hh
      rw [Bool.and_eq_true] at hh
      have := of_decide_eq_true hh.1
      rw [hnv, hp, ← List.length_map (f := fun p : PF => p.2), hr1.abs, HDF.out]
      exact this
    obtain ⟨q, rfl, _, _, _, hcj⟩ := hcells (by omega)
    obtain ⟨nj, Aj, lj, cj, _, z1, _, _, hrd, hljc, hl16, _⟩ := hcj p hpn
    rw [HDF.out] at hrd
    have hlj := hrd.len
    have hpn' : ¬ nv ≤ p := by omega
    have d1 := cells_top hr1.top 1 (.slice (some ⟨q, 0, none⟩) nv cv) rfl
    rw [← hp]
    have HRD := Kp.mk hrd
    have HE0 : Kp (σ.read nm at_ n = if at_ < 0 ∨ n < 0 ∨ ((lj : Nat) : Int) < at_ then (1, σ.down.2, []) else (0, σ.down.2, (((σ.files.getD p afD).2.1.drop at_.toNat).take n.toNat))) := ⟨by rw [HE.out, ← HFR.out, if_pos rfl, ← hp, hlj]⟩
    clear hf1 hr1 hcells hcj hrd hh hi hp HF hlj HE
    by_cases hbad : at_ < 0 ∨ n < 0 ∨ ((lj : Nat) : Int) < at_
    · have HSZ : Kp (σ.read nm at_ n = (1, σ.down.2, [])) := ⟨by rw [HE0.out, if_pos hbad]⟩
      clear HE0
      rcases Int.lt_or_le at_ 0 with b1 | b1
      · clear hbad
        go_wp2_with fail
        go_ret2
        rw [RReadP, HSZ.out]
        exact ⟨none, 0, 0, rfl, nil_rd _ _, postR_of HF1.out HR1.out⟩
      · have b1' : ¬ at_ < 0 := by omega
        rcases Int.lt_or_le n 0 with b2 | b2
        · clear hbad
          go_wp2_with fail
          go_ret2
          rw [RReadP, HSZ.out]
          exact ⟨none, 0, 0, rfl, nil_rd _ _, postR_of HF1.out HR1.out⟩
        · have b2' : ¬ n < 0 := by omega
          have b3 : ((lj : Nat) : Int) < at_ := by omega
          clear hbad
          go_wp2_with fail
          go_ret2
          rw [RReadP, HSZ.out]
          exact ⟨none, 0, 0, rfl, nil_rd _ _, postR_of HF1.out HR1.out⟩
    · obtain ⟨a, rfl⟩ := Int.eq_ofNat_of_zero_le (show 0 ≤ at_ by omega)
      obtain ⟨m, rfl⟩ := Int.eq_ofNat_of_zero_le (show 0 ≤ n by omega)
      have hal : a ≤ lj := by omega
      have hal' : ¬ lj < a := by omega
      obtain ⟨d, hd⟩ : ∃ d, d = lj - a := ⟨_, rfl⟩
      have hwd : IntKind.i64.wrap ((lj : Int) - (a : Int)) = (d : Int) := (IntWalk.i64_in _ (by omega)).trans (by omega)
      obtain ⟨k, hk⟩ : ∃ k, k = min m d := ⟨_, rfl⟩
      obtain ⟨t, ht⟩ : ∃ t, t = a + k := ⟨_, rfl⟩
      have hka : t - a = k := by omega
      have HSZ : Kp (σ.read nm (a : Int) (m : Int) = (0, σ.down.2, ((σ.files.getD p afD).2.1.drop a).take (t - a))) := ⟨by
        rw [HE0.out, if_neg hbad]
        simp only [Int.toNat_natCast]
        congr 2
        rw [hka, hk]
        have hl := HRD.out.len
        rcases Nat.le_total m d with h | h
        · rw [Nat.min_eq_left h]
        · rw [Nat.min_eq_right h, List.take_of_length_le (by rw [List.length_drop]; omega), List.take_of_length_le (by rw [List.length_drop]; omega)]⟩
      have hwt : IntKind.i64.wrap ((a : Int) + (k : Int)) = (t : Int) := (IntWalk.i64_in _ (by omega)).trans (by omega)
      obtain ⟨Am, hif, hrm⟩ := rd_mid HRD.out hljc (show a ≤ t by omega) (show t ≤ lj by omega)
      have p1 : (a : Int) ≤ (t : Int) := by omega
      have p2 : (t : Int) ≤ (cj : Int) := by omega
      have htc : t ≤ cj := by omega
      have HRM := Kp.mk hrm
      clear HE0 hbad hrm HRD
      have HL : Kp ((t - a) * 1 ≤ 140737488355328) := ⟨by omega⟩
      have Hz := Kp.mk hk
      have Hw := Kp.mk ht
      have Hv := Kp.mk hd
      have Hy := Kp.mk hka
      by_cases hmd : d < m
      · have hkd : k = d := by omega
        have hwt2 : IntKind.i64.wrap ((a : Int) + (d : Int)) = (t : Int) := by rw [← hkd]; exact hwt
        clear hkd hka hk ht hwt hd
        by_cases hca : cj = a
        · rw [if_pos hca] at hif
          subst hif
          have HRM0 : Kp (Rd w1 .u8 Aj (t - a) 0 ((((σ.files.getD p afD).2.1.drop a).take (t - a)))) := ⟨by have := HRM.out; rw [hca, Nat.sub_self] at this; exact this⟩
          go_wp2_with (at_builtin; go_must (refine wpList_append_new rfl (.const (.slice none 0 0)) (.tmp 57) 26 5 .u8 1 rfl Try.underlying26 Try.infoU8 Nat.one_pos (t - a) 0 ((((σ.files.getD p afD).2.1.drop a).take (t - a))) _ rfl rfl HRM0.out HL.out ?_); intro A2 c2 w2 h1 h2 h3 h4; have HR2 := Kp.mk h1; have HB2 := Kp.mk h4; clear h1 h2 h3 h4)
          go_ret2
          rw [RReadP, HSZ.out]
          exact ⟨_, _, _, rfl, HR2.out, postR_of (HF1.out.below HB2.out) (HR1.out.below HB2.out)⟩
        · rw [if_neg hca] at hif
          subst hif
          go_wp2_with (at_builtin; go_must (refine wpList_append_new rfl (.const (.slice none 0 0)) (.tmp 57) 26 5 .u8 1 rfl Try.underlying26 Try.infoU8 Nat.one_pos (t - a) (cj - a) ((((σ.files.getD p afD).2.1.drop a).take (t - a))) _ rfl rfl HRM.out HL.out ?_); intro A2 c2 w2 h1 h2 h3 h4; have HR2 := Kp.mk h1; have HB2 := Kp.mk h4; clear h1 h2 h3 h4)
          go_ret2
          rw [RReadP, HSZ.out]
          exact ⟨_, _, _, rfl, HR2.out, postR_of (HF1.out.below HB2.out) (HR1.out.below HB2.out)⟩
      · have hkm : k = m := by omega
        have hwt2 : IntKind.i64.wrap ((a : Int) + (m : Int)) = (t : Int) := by rw [← hkm]; exact hwt
        clear hkm hka hk ht hwt hd
        by_cases hca : cj = a
        · rw [if_pos hca] at hif
          subst hif
          have HRM0 : Kp (Rd w1 .u8 Aj (t - a) 0 ((((σ.files.getD p afD).2.1.drop a).take (t - a)))) := ⟨by have := HRM.out; rw [hca, Nat.sub_self] at this; exact this⟩
          go_wp2_with (at_builtin; go_must (refine wpList_append_new rfl (.const (.slice none 0 0)) (.tmp 57) 26 5 .u8 1 rfl Try.underlying26 Try.infoU8 Nat.one_pos (t - a) 0 ((((σ.files.getD p afD).2.1.drop a).take (t - a))) _ rfl rfl HRM0.out HL.out ?_); intro A2 c2 w2 h1 h2 h3 h4; have HR2 := Kp.mk h1; have HB2 := Kp.mk h4; clear h1 h2 h3 h4)
          go_ret2
          rw [RReadP, HSZ.out]
          exact ⟨_, _, _, rfl, HR2.out, postR_of (HF1.out.below HB2.out) (HR1.out.below HB2.out)⟩
        · rw [if_neg hca] at hif
          subst hif
          go_wp2_with (at_builtin; go_must (refine wpList_append_new rfl (.const (.slice none 0 0)) (.tmp 57) 26 5 .u8 1 rfl Try.underlying26 Try.infoU8 Nat.one_pos (t - a) (cj - a) ((((σ.files.getD p afD).2.1.drop a).take (t - a))) _ rfl rfl HRM.out HL.out ?_); intro A2 c2 w2 h1 h2 h3 h4; have HR2 := Kp.mk h1; have HB2 := Kp.mk h4; clear h1 h2 h3 h4)
          go_ret2
          rw [RReadP, HSZ.out]
          exact ⟨_, _, _, rfl, HR2.out, postR_of (HF1.out.below HB2.out) (HR1.out.below HB2.out)⟩
  · have h1 : (fr == 0) = false := by simpa using h0
    have h2 : (fr != 0) = true := by simpa using h0
    have HSZ : Kp (σ.read nm at_ n = (fr, σ.down.2, [])) := ⟨by rw [HE.out, ← HFR.out, if_neg h0]⟩
    clear hi hf1 hr1 h0 HF
    go_wp2_with fail
    go_ret2
    rw [RReadP, HSZ.out]
    exact ⟨none, 0, 0, rfl, nil_rd _ _, postR_of HF1.out HR1.out⟩
end Go.Proofs.Ytgeklapphkgdkaa.Dsk
