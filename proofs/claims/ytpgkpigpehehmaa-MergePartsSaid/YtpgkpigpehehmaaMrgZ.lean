import Derived.Test.YtpgkpigpehehmaaMrgY
set_option linter.unusedVariables false
set_option linter.unusedSimpArgs false
namespace Go.Proofs.Ytpgkpigpehehmaa.Bas
open Go.RowKit Go.Maps Go.Sort Go.Shelf

/-- What the lists are together: an error, or the one list that tells them. -/
def Tog (ess : List (List En)) (k : Int) (M : List En) : Prop := (allRise ess = false ∧ k = 10 ∧ M = []) ∨ (allRise ess = true ∧ k = 0 ∧ Tells ess.flatten M)
theorem Tog.one {ess : List (List En)} {k k' : Int} {M M' : List En} (h : Tog ess k M) (h' : Tog ess k' M') : k = k' ∧ M = M' := by
  rcases h with ⟨a, rfl, rfl⟩ | ⟨a, rfl, t⟩ <;> rcases h' with ⟨b, rfl, rfl⟩ | ⟨b, rfl, t'⟩
  · exact ⟨rfl, rfl⟩
  · rw [a] at b; cases b
  · rw [a] at b; cases b
  · exact ⟨rfl, t.one t'⟩
/-- A list and a number, as they come back. -/
def Gives (w0 : World) (ess : List (List En)) (f : List En → List En) (e : Ending) (w' : World) : Prop :=
  ∃ A n c k M, e = .returned (.tuple #[.slice A n c, .int .i64 k]) ∧ Es w' A n c (f M) ∧ Tog ess k M ∧ Below w0.heap.size w0 w'
theorem es_nil (w : World) (A : Option Addr) (c : Nat) (h : A = none → c = 0) : Es w A 0 c [] := ⟨rfl, Nat.zero_le _, fun e => ⟨rfl, h e⟩, fun h => absurd h (Nat.lt_irrefl 0)⟩
theorem tells_len {X M : List En} (h : Tells X M) : M.length ≤ X.length := rising_short _ X h.rise (fun m hm => List.mem_of_find?_eq_some (h.first m hm))
theorem all_gives {w : World} {A : Option Addr} {n c : Nat} {ess : List (List En)} (h : Ls w A n c ess) (hT : ess.flatten.length ≤ 1000000) : Calls Try.prog 8 #[.slice A n c] w (Gives w ess id) :=
  (all_gen h hT).mono fun e w' hq => by
    obtain ⟨hb, (⟨hr, rfl⟩ | ⟨hr, v, ps, L', hR, hL, rfl, hO, hp⟩)⟩ := hq
    · exact ⟨none, 0, 0, 10, [], rfl, es_nil _ _ _ (fun _ => rfl), .inl ⟨hr, rfl, rfl⟩, hb⟩
    · have hte := str_tells hR
      rw [← hp] at hte
      obtain ⟨A1, c1, rfl⟩ := hO.slice
      have hl := tells_len hte
      rw [List.length_map] at hl
      exact ⟨A1, _, c1, 0, ps.map (fun x : Pr => x.2), rfl, (hO.es (by omega)).2, .inr ⟨hr, rfl, hte⟩, hb⟩
theorem merge_gives {w : World} {A : Option Addr} {n c : Nat} {ess : List (List En)} (h : Ls w A n c ess) (hT : ess.flatten.length ≤ 1000000) : Calls Try.prog 9 #[.slice A n c] w (Gives w ess id) :=
  (merge_ref h hT).mono fun e w' hq => by
    obtain ⟨hb, (⟨hr, rfl⟩ | ⟨hr, v, ps, rfl, hO, hte⟩)⟩ := hq
    · exact ⟨none, 0, 0, 10, [], rfl, es_nil _ _ _ (fun _ => rfl), .inl ⟨hr, rfl, rfl⟩, hb⟩
    · obtain ⟨A1, c1, rfl⟩ := hO.slice
      have hl := tells_len hte
      rw [List.length_map] at hl
      exact ⟨A1, _, c1, 0, ps.map (fun x : Pr => x.2), rfl, (hO.es (by omega)).2, .inr ⟨hr, rfl, hte⟩, hb⟩
theorem back_gives {w : World} {A : Option Addr} {n c : Nat} {ess : List (List En)} (h : Ls w A n c ess) (hT : ess.flatten.length ≤ 1000000) : Calls Try.prog 10 #[.slice A n c] w (Gives w ess List.reverse) :=
  (back_gen h hT).mono fun e w' hq => by
    obtain ⟨hb, (⟨hr, rfl⟩ | ⟨hr, A1, n1, c1, L', hR, hL, rfl, hes⟩)⟩ := hq
    · exact ⟨none, 0, 0, 10, [], rfl, es_nil _ _ _ (fun _ => rfl), .inl ⟨hr, rfl, rfl⟩, hb⟩
    · exact ⟨A1, n1, c1, 0, _, rfl, hes, .inr ⟨hr, rfl, str_tells hR⟩, hb⟩
theorem mback_gives {w : World} {A : Option Addr} {n c : Nat} {ess : List (List En)} (h : Ls w A n c ess) (hT : ess.flatten.length ≤ 1000000) : Calls Try.prog 11 #[.slice A n c] w (Gives w ess List.reverse) :=
  (mback_ref h hT).mono fun e w' hq => by
    obtain ⟨hb, (⟨hr, A1, c1, rfl, hn0⟩ | ⟨hr, v, ps, M, rfl, hO, hte, hp⟩)⟩ := hq
    · exact ⟨A1, 0, c1, 10, [], rfl, es_nil _ _ _ hn0, .inl ⟨hr, rfl, rfl⟩, hb⟩
    · obtain ⟨A1, c1, rfl⟩ := hO.slice
      have hl := tells_len hte
      have h2 := congrArg List.length hp
      rw [List.length_map, List.length_reverse] at h2
      exact ⟨A1, _, c1, 0, M, rfl, by rw [← hp]; exact (hO.es (by omega)).2, .inr ⟨hr, rfl, hte⟩, hb⟩
theorem lbig_short {ess : List (List En)} (h : lbigB ess = false) : ess.flatten.length ≤ 1000000 := by
  unfold lbigB at h
  rw [Bool.or_eq_false_iff] at h
  have h8 := of_decide_eq_false h.2
  have key : ∀ l : List (List En), (∀ x ∈ l, x.length ≤ 60) → l.flatten.length ≤ l.length * 60 := by
    intro l
    induction l with
    | nil => intro _; simp
    | cons a r ih =>
      intro hx
      have h1 := hx a (List.mem_cons_self ..)
      have h2 := ih (fun x h => hx x (List.mem_cons_of_mem _ h))
      rw [List.flatten_cons, List.length_append, List.length_cons]
      omega
  have := key ess (fun x hx => bigB_short (by
    have := (List.any_eq_false.1 h.1) x hx
    simpa using this))
  omega
set_option maxHeartbeats 4000000 in
set_option maxRecDepth 100000 in
theorem merge_lists {w : World} {A : Option Addr} {n c : Nat} {ess : List (List En)} (h : Ls w A n c ess) : Calls Try.prog 3 #[.slice A n c] w fun e w' => e = .returned (.bool true) ∧ Below w.heap.size w w' := by
  have H := Kp.mk h
  clear h
  obtain ⟨b, hb⟩ : ∃ b, lbigB ess = b := ⟨_, rfl⟩
  have HBg : Kp (∀ W, Below w.heap.size w W → Calls Try.prog 7 #[.slice A n c] W fun e w' => e = .returned (.bool b) ∧ w' = W) := ⟨fun W hW => by rw [← hb]; exact lbig_any (H.out.below hW)⟩
  cases b with
  | true =>
    go_enter Try.func3, Try.ntmps3
    go_wp2_with (first
      | (go_at_call 6; refine (alive_any w).mono ?_; rintro e w1 ⟨rfl, hb1⟩; have HB1 := Kp.mk hb1; clear hb1)
      | (go_at_call 7; refine (HBg.out _ HB1.out).mono ?_; rintro e w2 ⟨rfl, hw2⟩; subst hw2))
    go_ret
    exact ⟨rfl, HB1.out⟩
  | false =>
    have hT := lbig_short hb
    have HT := Kp.mk hT
    clear hT hb
    go_enter Try.func3, Try.ntmps3
    go_wp2_with (first
      | (go_at_call 6; refine (alive_any w).mono ?_; rintro e w1 ⟨rfl, hb1⟩; have HB1 := Kp.mk hb1; clear hb1)
      | (go_at_call 7; refine (HBg.out _ HB1.out).mono ?_; rintro e w2 ⟨rfl, hw2⟩; subst hw2)
      | (go_at_call 8; refine (all_gives (H.out.below HB1.out) HT.out).mono ?_; rintro e w3 ⟨A1, n1, c1, k1, M1, rfl, hes1, ht1, hb3⟩; have HE1 := Kp.mk hes1; have HT1 := Kp.mk ht1; have HS3 := Kp.mk hb3; have HB3 := Kp.mk (HB1.out.trans (hb3.mono HB1.out.size)); clear hes1 ht1 hb3)
      | (go_at_call 9; refine (merge_gives (H.out.below HB3.out) HT.out).mono ?_; rintro e w4 ⟨A2, n2, c2, k2, M2, rfl, hes2, ht2, hb4⟩; have e21 := HT1.out.one ht2; have ek := e21.1; have eM := e21.2; subst ek eM; have hn := HE1.out.len.symm.trans hes2.len; subst hn; have HE2 := Kp.mk hes2; have HE1' := Kp.mk (HE1.out.below hb4); have HB4 := Kp.mk (HB3.out.trans (hb4.mono HB3.out.size)); clear hes2 ht2 hb4 e21)
      | (go_at_call 10; refine (back_gives (H.out.below HB4.out) HT.out).mono ?_; rintro e w5 ⟨A3, n3, c3, k3, M3, rfl, hes3, ht3, hb5⟩; have e31 := HT1.out.one ht3; have ek := e31.1; have eM := e31.2; subst ek eM; have HE3 := Kp.mk hes3; have HE2' := Kp.mk (HE2.out.below hb5); have HE1'' := Kp.mk (HE1'.out.below hb5); have HB5 := Kp.mk (HB4.out.trans (hb5.mono HB4.out.size)); clear hes3 ht3 hb5 e31)
      | (go_at_call 11; refine (mback_gives (H.out.below HB5.out) HT.out).mono ?_; rintro e w6 ⟨A4, n4, c4, k4, M4, rfl, hes4, ht4, hb6⟩; have e41 := HT1.out.one ht4; have ek := e41.1; have eM := e41.2; subst ek eM; have hn := HE3.out.len.symm.trans hes4.len; subst hn; have HE4 := Kp.mk hes4; have HE3' := Kp.mk (HE3.out.below hb6); have HE2'' := Kp.mk (HE2'.out.below hb6); have HE1f := Kp.mk (HE1''.out.below hb6); have HB6 := Kp.mk (HB5.out.trans (hb6.mono HB5.out.size)); clear hes4 ht4 hb6 e41)
      | (go_at_call_of 12 (Value.slice A1 n1 c1); refine (same_entries HE1f.out HE2''.out).mono ?_; rintro e w7 ⟨rfl, hb7⟩; have HE3f := Kp.mk (HE3'.out.below hb7); have HE4f := Kp.mk (HE4.out.below hb7); have HB7 := Kp.mk (HB6.out.trans (hb7.mono HB6.out.size)); clear hb7)
      | (go_at_call 12; refine (same_entries HE3f.out HE4f.out).mono ?_; rintro e w8 ⟨rfl, hb8⟩; have HB8 := Kp.mk (HB7.out.trans (hb8.mono HB7.out.size)); clear hb8)
      | (go_at_call 13; refine (num_any _ _).mono ?_; rintro e w9 ⟨rfl, hw9⟩; subst hw9))
    go_ret
    exact ⟨rfl, HB8.out⟩
end Go.Proofs.Ytpgkpigpehehmaa.Bas
