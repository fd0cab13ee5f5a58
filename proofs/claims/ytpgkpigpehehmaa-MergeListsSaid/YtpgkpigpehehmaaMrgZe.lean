import Derived.Test.YtpgkpigpehehmaaMrgZd
set_option linter.unusedVariables false
set_option linter.unusedSimpArgs false
namespace Go.Proofs.Ytpgkpigpehehmaa.Bas
open Go.RowKit Go.Maps Go.Deep

theorem flat_short : ∀ l : List (List En), (∀ x ∈ l, x.length ≤ 60) → l.flatten.length ≤ l.length * 60
  | [], _ => by simp
  | a :: r, hx => by
    have h1 := hx a (List.mem_cons_self ..)
    have h2 := flat_short r (fun x h => hx x (List.mem_cons_of_mem _ h))
    rw [List.flatten_cons, List.length_append, List.length_cons]
    omega
/-- Lists of entries that came in. -/
theorem open_lists {H : Type} {enc : TypeId × Value → H} {w : World} {base : Nat} {spare : Nat → Bool} {held : Bool} {fuel : Nat} {cs : List Value} {x : DataW H × List MemPlace} (h : DataW.trod enc Try.prog w base spare held fuel 22 cs = some x) :
    ∃ A n c ess, cs = [.slice A n c] ∧ LsW w A n c ess ∧ (lbigL ess = false → ∃ es2, Ls w A n c es2 ∧ es2.flatten.length ≤ 1000000) := by
  rcases open_slice1 Try.underlying22 (by kernel_rfl) h with ⟨rfl, _⟩ | ⟨a, len, cap, m, n, V, D, Pl, rfl, _, hl, hm, hmm, _, hel⟩
  · exact ⟨none, 0, 0, [], rfl, ⟨rfl, Nat.zero_le _, fun _ => ⟨rfl, rfl⟩, fun h => absurd h (Nat.lt_irrefl 0)⟩, fun _ => ⟨[], ⟨rfl, Nat.zero_le _, fun _ => ⟨rfl, rfl⟩, fun h => absurd h (Nat.lt_irrefl 0)⟩, Nat.zero_le _⟩⟩
  · have hlm : len ≤ m := by rw [hmm]; split <;> omega
    obtain ⟨F, hF⟩ := choose_lt (α := List (Nat × Nat)) (n := len) (p := fun i ls => ∃ A' c', w.cell? (a.add i) = some (.slice A' ls.length c') ∧ EsW w A' ls.length c' ls ∧ (bigL ls = false → ∃ es, Es w A' ls.length c' es)) (fun i hi => by
      obtain ⟨h1, h2⟩ := hel i (by omega)
      obtain ⟨A', n', c', ls, e, he, hb⟩ := open_entries h2
      injection e with e _
      have hn := he.len
      subst hn
      exact ⟨ls, A', c', by rw [h1, e], he, hb⟩)
    have hget : ∀ i, i < len → ((List.range len).map F).getD i [] = F i := fun i hi => by simp [List.getD, hi]
    refine ⟨some a, len, cap, (List.range len).map F, rfl, ⟨by simp, by unfold maxLen at hm; omega, (fun e => by cases e), fun hp => ⟨a, rfl, fun i hi => ?_⟩⟩, fun hb => ?_⟩
    · rw [hget i hi]
      obtain ⟨A', c', q1, q2, _⟩ := hF i hi
      exact ⟨A', c', q1, q2⟩
    · unfold lbigL at hb
      rw [Bool.or_eq_false_iff] at hb
      have h8 := of_decide_eq_false hb.2
      rw [List.length_map, List.length_range] at h8
      obtain ⟨G, hG⟩ := choose_lt (α := List En) (n := len) (p := fun i es => es.length ≤ 60 ∧ ∃ A' c', w.cell? (a.add i) = some (.slice A' es.length c') ∧ Es w A' es.length c' es) (fun i hi => by
        obtain ⟨A', c', q1, q2, q3⟩ := hF i hi
        have hbi : bigL (F i) = false := by
          have := (List.any_eq_false.1 hb.1) (F i) (List.mem_map.2 ⟨i, List.mem_range.2 hi, rfl⟩)
          simpa using this
        obtain ⟨es, he⟩ := q3 hbi
        have hn := he.len
        have h60 : es.length ≤ 60 := by
          have h2 := hbi
          unfold bigL at h2
          rw [Bool.or_eq_false_iff] at h2
          have := of_decide_eq_false h2.2
          omega
        rw [← hn] at q1 he
        exact ⟨es, h60, A', c', q1, he⟩)
      refine ⟨(List.range len).map G, ⟨by simp, by omega, (fun e => by cases e), fun hp => ⟨a, rfl, fun i hi => ?_⟩⟩, ?_⟩
      rotate_left
      · have := flat_short ((List.range len).map G) (fun x hx => by
          obtain ⟨i, hi, rfl⟩ := List.mem_map.1 hx
          exact (hG i (List.mem_range.1 hi)).1)
        simp only [List.length_map, List.length_range] at this
        omega
      have e2 : ((List.range len).map G).getD i [] = G i := by simp [List.getD, hi]
      rw [e2]
      exact (hG i hi).2

theorem EsW.below {w W : World} {A : Option Addr} {n c : Nat} {ls : List (Nat × Nat)} (h : EsW w A n c ls) (hb : Below w.heap.size w W) : EsW W A n c ls :=
  ⟨h.len, h.max, h.nil, fun hn => by
    obtain ⟨b, off, e, hc⟩ := h.cell hn
    refine ⟨b, off, e, fun i hi => ?_⟩
    obtain ⟨⟨A0, c0, h1⟩, A1, c1, h2⟩ := hc i hi
    exact ⟨⟨A0, c0, cell_kept hb h1⟩, A1, c1, cell_kept hb h2⟩⟩
theorem LsW.below {w W : World} {A : Option Addr} {n c : Nat} {ess : List (List (Nat × Nat))} (h : LsW w A n c ess) (hb : Below w.heap.size w W) : LsW W A n c ess :=
  ⟨h.len, h.max, h.nil, fun hn => by
    obtain ⟨ad, e, hc⟩ := h.cell hn
    refine ⟨ad, e, fun i hi => ?_⟩
    obtain ⟨A', c', h1, h2⟩ := hc i hi
    exact ⟨A', c', cell_kept hb h1, h2.below hb⟩⟩
set_option maxHeartbeats 4000000 in
set_option maxRecDepth 100000 in
theorem merge_lists_in {w : World} {A : Option Addr} {n c : Nat} {ess0 : List (List (Nat × Nat))} (h0 : LsW w A n c ess0) (hS : lbigL ess0 = false → ∃ es2, Ls w A n c es2 ∧ es2.flatten.length ≤ 1000000) : Calls Try.prog 3 #[.slice A n c] w fun e w' => e = .returned (.bool true) ∧ Below w.heap.size w w' := by
  have H0 := Kp.mk h0
  clear h0
  obtain ⟨b, hb⟩ : ∃ b, lbigL ess0 = b := ⟨_, rfl⟩
  have HBg : Kp (∀ W, Below w.heap.size w W → Calls Try.prog 7 #[.slice A n c] W fun e w' => e = .returned (.bool b) ∧ w' = W) := ⟨fun W hW => by rw [← hb]; exact lbig_weak (H0.out.below hW)⟩
  cases b with
  | true =>
    clear hS hb
    go_enter Try.func3, Try.ntmps3
    go_wp2_with (first
      | (go_at_call 6; refine (alive_any w).mono ?_; rintro e w1 ⟨rfl, hb1⟩; have HB1 := Kp.mk hb1; clear hb1)
      | (go_at_call 7; refine (HBg.out _ HB1.out).mono ?_; rintro e w2 ⟨rfl, hw2⟩; subst hw2))
    go_ret
    exact ⟨rfl, HB1.out⟩
  | false =>
    obtain ⟨ess, h, hT⟩ := hS hb
    have H := Kp.mk h
    have HT := Kp.mk hT
    clear hT hb h hS
    go_enter Try.func3, Try.ntmps3
    go_wp2_with (first
      | (go_at_call 6; refine (alive_any w).mono ?_; rintro e w1 ⟨rfl, hb1⟩; have HB1 := Kp.mk hb1; clear hb1)
      | (go_at_call 7; refine (HBg.out _ HB1.out).mono ?_; rintro e w2 ⟨rfl, hw2⟩; subst hw2)
      | (go_at_call 8; refine (all_gives (H.out.below HB1.out) HT.out).mono ?_; rintro e w3 ⟨A1, n1, c1, k1, M1, rfl, hes1, ht1, hb3⟩; have HE1 := Kp.mk hes1; have HT1 := Kp.mk ht1; have HS3 := Kp.mk hb3; have HB3 := Kp.mk (HB1.out.trans (hb3.mono HB1.out.size)); clear hes1 ht1 hb3)
      | (go_at_call 9; refine (merge_gives (H.out.below HB3.out) HT.out).mono ?_; rintro e w4 ⟨A2, n2, c2, k2, M2, rfl, hes2, ht2, hb4⟩; have e21 := HT1.out.one ht2; have ek := e21.1; have eM := e21.2; subst ek eM; have hn := HE1.out.len.symm.trans hes2.len; subst hn; have HE2 := Kp.mk hes2; have HE1' := Kp.mk (HE1.out.below hb4); have HB4 := Kp.mk (HB3.out.trans (hb4.mono HB3.out.size)); clear hes2 ht2 hb4 e21)
      | (go_at_call 10; refine (back_gives (H.out.below HB4.out) HT.out).mono ?_; rintro e w5 ⟨A3, n3, c3, k3, M3, rfl, hes3, ht3, hb5⟩; have e31 := HT1.out.one ht3; have ek := e31.1; have eM := e31.2; subst ek eM; have HE3 := Kp.mk hes3; have HE2' := Kp.mk (HE2.out.below hb5); have HE1'' := Kp.mk (HE1'.out.below hb5); have HB5 := Kp.mk (HB4.out.trans (hb5.mono HB4.out.size)); clear hes3 ht3 hb5 e31)
      | (go_at_call 11; refine (mback_gives (H.out.below HB5.out) HT.out).mono ?_; rintro e w6 ⟨A4, n4, c4, k4, M4, rfl, hes4, ht4, hb6⟩; have e41 := HT1.out.one ht4; have ek := e41.1; have eM := e41.2; subst ek eM; have hn := HE3.out.len.symm.trans hes4.len; subst hn; have HE4 := Kp.mk hes4; have HE3' := Kp.mk (HE3.out.below hb6); have HE2'' := Kp.mk (HE2'.out.below hb6); have HE1f := Kp.mk (HE1''.out.below hb6); have HB6 := Kp.mk (HB5.out.trans (hb6.mono HB5.out.size)); clear hes4 ht4 hb6 e41)
      | (go_at_call_of 12 (Value.slice A1 n1 c1); refine (same_entries HE1f.out HE2''.out).mono ?_; rintro e w7 ⟨rfl, hb7⟩; have HE3f := Kp.mk (HE3'.out.below hb7); have HE4f := Kp.mk (HE4.out.below hb7); have HB7 := Kp.mk (HB6.out.trans (hb7.mono HB6.out.size)); clear hb7)
      | (go_at_call 12; refine (same_entries HE3f.out HE4f.out).mono ?_; rintro e w8 ⟨rfl, hb8⟩; have HB8 := Kp.mk (HB7.out.trans (hb8.mono HB7.out.size)); clear hb8)
      | (go_at_call 13; refine (num_any _ _).mono ?_; rintro e w9 ⟨rfl, hw9⟩; subst hw9))
    go_ret
    exact ⟨rfl, HB8.out⟩
end Go.Proofs.Ytpgkpigpehehmaa.Bas
