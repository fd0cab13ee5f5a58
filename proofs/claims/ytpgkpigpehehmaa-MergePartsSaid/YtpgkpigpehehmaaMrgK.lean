import Derived.Test.YtpgkpigpehehmaaMrgJ
set_option linter.unusedVariables false
set_option linter.unusedSimpArgs false
namespace Go.Proofs.Ytpgkpigpehehmaa.Bas
open Go.RowKit Go.Maps Go.Sort Go.Shelf

set_option maxHeartbeats 2000000 in
set_option maxRecDepth 100000 in
/-- The sort of no list: nothing turns. -/
theorem ins_nil (w : World) : Calls Try.prog 32 #[.slice none 0 0, .int .i64 0, .int .i64 0, .func (.func 19) #[] #[]] w fun e w' => e = .returned (.tuple #[]) ∧ Below w.heap.size w w' := by
  go_enter Try.func32, Try.ntmps32
  go_wp2_with fail
  refine wp_loop_rounds 1 ?_
  rw [rounds_succ]
  go_wp2
  go_end0
  exact ⟨rfl, Below.refl _ _⟩
set_option maxHeartbeats 2000000 in
set_option maxRecDepth 100000 in
theorem stable_nil (w : World) : Calls Try.prog 25 #[.slice none 0 0, .int .i64 0, .func (.func 19) #[] #[]] w fun e w' => e = .returned (.tuple #[]) ∧ Below w.heap.size w w' := by
  go_enter Try.func25, Try.ntmps25
  go_wp2_with fail
  go_loopw [7, 8] (fun u v wr => u = .int .i64 0 ∧ v = .int .i64 20 ∧ Kp (Below w.heap.size w wr)) (fun _ _ _ => 0)
  case atStart => exact ⟨rfl, rfl, ⟨Below.refl _ _⟩⟩
  case round =>
    obtain ⟨rfl, rfl, HB⟩ := hrel
    go_wp2_with (go_at_call 32; refine (ins_nil _).mono ?_; rintro e w1 ⟨rfl, hb1⟩)
    have HB1 := Kp.mk (HB.out.trans (hb1.mono HB.out.size))
    clear hb1
    go_loopw [6] (fun u wr => u = .int .i64 20 ∧ Kp (Below w.heap.size w wr)) (fun _ _ => 0)
    case atStart => exact ⟨rfl, HB1⟩
    case round =>
      obtain ⟨rfl, HB2⟩ := hrel
      go_wp2
      go_end0
      exact ⟨rfl, HB2.out⟩
set_option maxHeartbeats 1000000 in
set_option maxRecDepth 100000 in
theorem sort_nil (w : World) : Calls Try.prog 18 #[.slice none 0 0, .func (.func 19) #[] #[]] w fun e w' => e = .returned (.tuple #[]) ∧ Below w.heap.size w w' := by
  go_enter Try.func18, Try.ntmps18
  go_wp2_with fail
  refine (stable_nil _).mono ?_
  rintro e w1 ⟨rfl, hb1⟩
  have HB1 := Kp.mk hb1
  clear hb1
  go_wp2
  go_end0
  exact ⟨rfl, HB1.out⟩
/-- The sort of the call's own row. -/
theorem sort_row {w W : World} {v : Value} {ps : List Pr} {R : List En → List En → Prop} {N : Nat} (hs : SortsAt w R N) (hR : R [] []) (hown : W.ownsRow w.heap.size 40 4 v ps.length (flat4 ps)) (hen : ∀ p ∈ ps, EnC w p.1 p.2) (hN : ps.length = N) (hM : N ≤ 1000000) (hB : Below w.heap.size w W) :
    Calls Try.prog 18 #[v, .func (.func 19) #[] #[]] W fun e w' => e = .returned (.tuple #[]) ∧ ∃ A c L', v = .slice A N c ∧ R (ps.map (·.2)) L' ∧ L'.length = N ∧ Below w.heap.size w w' ∧ Es w' A N c L' := by
  rcases hown.2 with ⟨e1, e2⟩ | ⟨g, cap, cur, e1, hg, hh, _⟩
  · subst e1
    have hp : ps = [] := List.eq_nil_of_length_eq_zero e2
    subst hp
    have hN0 : N = 0 := hN.symm
    subst hN0
    refine (sort_nil W).mono ?_
    rintro e w1 ⟨rfl, hb⟩
    exact ⟨rfl, none, 0, [], rfl, hR, rfl, hB.trans (hb.mono hB.size), ⟨rfl, by omega, fun _ => ⟨rfl, rfl⟩, fun h => by omega⟩⟩
  · subst e1
    have hcells : ∀ (j : Nat) (u : Value), (flat4 ps)[j]? = some u → cur[j]? = some u := fun j u hu => by
      have := hown.cells (g := g) rfl j u hu
      rwa [Addr.add_lit, Nat.zero_add, cell_of_row W g j cur _ (0, 0) hh] at this
    have hH := holds4 ps hen hh hcells
    have hsz := cellsOf4_size ps hen
    have hlt : g < W.heap.size := lt_of_block hh
    have hc := hs W g cap (cellsOf4 ps hen) hB hg hH hlt (by omega)
    rw [hN]
    refine hc.mono ?_
    rintro e w1 ⟨rfl, m, os, d', rfl, h1, h2⟩
    have hB1 := sortWorld_below (m := m) (dk := d') (os := os) (off := 0) hB hg
    have hH1 := holdsK_sortWorldK_c (encC (w0 := w)) 4 W g 0 (cellsOf4 ps hen) d' m os hH hlt (by omega)
    have hv : (cellsOf4 ps hen).toList.map (fun x : Cell4 w => x.1.2) = ps.map (·.2) := by
      have := congrArg (List.map (fun x : Pr => x.2)) (cellsOf4_val ps hen)
      rw [List.map_map] at this
      exact this
    rw [hv] at h2
    refine ⟨rfl, _, _, _, rfl, h2, by simp [h1], hB1, ⟨by simp [h1], hM, (fun e => by cases e), fun hp => ⟨g, 0, rfl, fun i hi => ?_⟩⟩⟩
    obtain ⟨vs, q1, q2⟩ := holds_cells hH1 (k := i) (by omega)
    exact ⟨vs, q1.below hB1, fun j u hu => by rw [Nat.zero_add]; exact q2 j u hu⟩
theorem Ow.lower {B B' : Nat} {w : World} {v : Value} {ps : List Pr} (h : Ow B w v ps) (hb : B' ≤ B) : Ow B' w v ps :=
  ⟨⟨h.own.1, by
    rcases h.own.2 with h2 | ⟨g, cap, cur, hv, hg, r⟩
    · exact .inl h2
    · exact .inr ⟨g, cap, cur, hv, Nat.le_trans hb hg, r⟩⟩, h.en, h.apart⟩
end Go.Proofs.Ytpgkpigpehehmaa.Bas
