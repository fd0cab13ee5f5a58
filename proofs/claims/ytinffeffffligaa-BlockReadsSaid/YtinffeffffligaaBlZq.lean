import Derived.Test.YtinffeffffligaaBlZp
set_option linter.unusedVariables false
set_option linter.unusedSimpArgs false
namespace Go.Proofs.Ytinffeffffligaa.Bas
open Go.RowKit Go.Maps

/-! ### What the laws use -/
theorem num_any (w : World) (k : Int) : Calls Try.prog 13 #[.int .i64 k] w fun e w' => e = .returned (.int .i64 k) ∧ w' = w := by
  go_enter Try.func13, Try.ntmps13
  go_wp2
  go_ret
  exact ⟨rfl, rfl⟩
theorem buildB_byt {es : List En} (h : GoodE es) (s : Nat) : Byt (buildB s es) := byt_append (bodyB_byt h s) (lowB_byt _ _)
theorem build_small {es : List En} (h : GoodE es) (s : Nat) (hl : es.length ≤ 60) : (buildB s es).length ≤ 300000 := by
  rw [buildB_len]
  have h1 := outB_len h s es.length (Nat.le_refl _)
  have h2 := endsB_len s es es.length
  omega
theorem built_is {w : World} {A : Option Addr} {n c : Nat} {es : List En} (h : Es w A n c es) (hs : SeqE es) (hc : chkB es = 0) (s : Int) : IsB (buildB (clampN s) es) es (clampN s) := by
  obtain ⟨h1, h2⟩ := good_of h hs hc
  obtain ⟨c1, c2, _⟩ := clampN_in s
  exact ⟨h1, h2, c1, c2, rfl⟩
/-- All of what was built. -/
theorem all_built {w : World} {B : Nat} {A : Option Addr} {n c : Nat} {es : List En} {s : Nat} (h : Nu .u8 5 B w (.slice A n c) (buildB s es)) (hI : IsB (buildB s es) es s) (hl : es.length ≤ 60) {m : Nat} (hm : es.length = m) :
    Calls Try.prog 14 #[.slice A n c] w fun e w' => ∃ A' c', e = .returned (.tuple #[.slice A' m c', .int .i64 0]) ∧ Es w' A' m c' es ∧ Below w.heap.size w w' := by
  subst hm
  have hsm := build_small hI.good s hl
  obtain ⟨hn, hr, _⟩ := h.rd (by omega)
  refine (block_all hr h.cap (buildB_byt hI.good s) (by omega)).mono ?_
  rintro e w' ⟨hb, (⟨cc, hbad, rfl⟩ | ⟨v, ps, u, hI2, rfl, how⟩)⟩
  · exact (hbad.not hI).elim
  · have hes := hI.one hI2
    obtain ⟨A', c', e3⟩ := how.slice
    subst e3
    have hpl : ps.length = es.length := by rw [hes, List.length_map]
    have h1 := (how.es (by omega)).2
    rw [← hes, hpl] at h1
    exact ⟨A', c', by rw [hpl], h1, hb⟩
theorem good_nil : IsB (buildB 4 []) [] 4 := ⟨⟨fun j h => absurd h (Nat.not_lt_zero j), fun j h => absurd h (Nat.not_lt_zero j), fun j h => absurd h (Nat.not_lt_zero j), Nat.zero_le _⟩, rfl, by omega, by omega, rfl⟩
theorem es_nil (w : World) : Es w none 0 0 [] := ⟨rfl, by omega, fun _ => ⟨rfl, rfl⟩, fun h => absurd h (by omega)⟩
set_option maxHeartbeats 2000000 in
set_option maxRecDepth 100000 in
theorem alive_any (w : World) : Calls Try.prog 9 #[] w fun e w' => e = .returned (.bool true) ∧ Below w.heap.size w w' := by
  have HB0 := Kp.mk (build_any (es_nil w) (fun j h => absurd h (Nat.not_lt_zero j)) 4)
  go_enter Try.func9, Try.ntmps9
  go_wp2_with fail
  refine HB0.out.mono ?_
  rintro e w1 ⟨hb1, (⟨hk, rfl⟩ | ⟨hk, A, n, c, rfl, hnu⟩)⟩
  · exact absurd rfl hk
  · have h4 : clampN 4 = 4 := by decide
    rw [h4] at hnu
    have hn8 : n = 8 := (hnu.rd (by rw [buildB_len]; simp [outB, endsB])).1.trans (by rw [buildB_len]; simp [outB, endsB])
    have HA := Kp.mk (all_built hnu good_nil (by simp) (m := 0) rfl)
    have HB1 := Kp.mk hb1
    subst hn8
    clear hk hnu h4 hb1 HB0
    go_wp2_with fail
    refine HA.out.mono ?_
    rintro e w2 ⟨A2, c2, rfl, _, hb2⟩
    have HB2 := Kp.mk (HB1.out.trans (hb2.mono HB1.out.size))
    clear hb2 HA
    go_wp2_with (go_at_call 13; refine (num_any _ _).mono ?_; rintro e w3 ⟨rfl, hw3⟩; subst hw3)
    go_ret
    exact ⟨rfl, HB2.out⟩
end Go.Proofs.Ytinffeffffligaa.Bas
