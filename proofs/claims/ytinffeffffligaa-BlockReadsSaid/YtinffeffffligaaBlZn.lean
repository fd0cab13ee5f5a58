import Derived.Test.YtinffeffffligaaBlZm
set_option linter.unusedVariables false
set_option linter.unusedSimpArgs false
namespace Go.Proofs.Ytinffeffffligaa.Bas
open Go.RowKit Go.Maps

/-! ### All, Restarts; the reference's Restarts -/
/-- Why bytes are no block. -/
def Bad (xs : List Int) (c : Int) : Prop := (xs.length < 8 ∧ c = 4) ∨ (8 ≤ xs.length ∧ ¬ SumOk xs ∧ c = 5) ∨ (8 ≤ xs.length ∧ SumOk xs ∧ (∀ es s, ¬ IsB xs es s) ∧ c = 2)
theorem Bad.one {xs : List Int} {c d : Int} (h : Bad xs c) (g : Bad xs d) : c = d := by
  rcases h with ⟨h1, h2⟩ | ⟨h1, h2, h3⟩ | ⟨h1, h2, h3, h4⟩ <;> rcases g with ⟨g1, g2⟩ | ⟨g1, g2, g3⟩ | ⟨g1, g2, g3, g4⟩ <;> first | omega | exact absurd g2 h2 | exact absurd h2 g2
theorem Bad.not {xs : List Int} {c : Int} (h : Bad xs c) {es : List En} {s : Nat} (hi : IsB xs es s) : False := by
  obtain ⟨p1, p2, _⟩ := hi.parts
  rcases h with ⟨h1, _⟩ | ⟨_, h2, _⟩ | ⟨_, _, h3, _⟩
  · omega
  · exact h2 p2
  · exact h3 es s hi
theorem Bad.ne {xs : List Int} {c : Int} (h : Bad xs c) : c ≠ 0 := by
  rcases h with ⟨_, h⟩ | ⟨_, _, h⟩ | ⟨_, _, _, h⟩ <;> omega
def ReadQ (xs : List Int) (w : World) (e : Ending) (w' : World) : Prop :=
  Below w.heap.size w w' ∧ ((∃ c, Bad xs c ∧ e = .returned (.tuple #[toldZ, .int .i64 c])) ∨
    (∃ vl vr, ∃ lo hi : Int, ∃ ps s, IsB xs (ps.map (fun p : Pr => p.2)) s ∧ e = .returned (.tuple #[.agg #[vl, vr, .int .i64 lo, .int .i64 hi], .int .i64 0]) ∧ Ow w.heap.size w' vl ps ∧
      Nu .i64 3 w.heap.size w' vr (intsN (endsB s (ps.map (fun p : Pr => p.2)) ps.length))))
theorem readQ {xs : List Int} {w : World} {e : Ending} {w' : World} (h : RdP xs w e w') : ReadQ xs w e w' := by
  obtain ⟨hb, (⟨h1, h2⟩ | ⟨h1, h2, h3⟩ | ⟨h1, h2, h3, h4⟩ | h1)⟩ := h
  · exact ⟨hb, .inl ⟨4, .inl ⟨h1, rfl⟩, h2⟩⟩
  · exact ⟨hb, .inl ⟨5, .inr (.inl ⟨h1, h2, rfl⟩), h3⟩⟩
  · exact ⟨hb, .inl ⟨2, .inr (.inr ⟨h1, h2, h3, rfl⟩), h4⟩⟩
  · exact ⟨hb, .inr h1⟩
def RAllQ (xs : List Int) (w : World) (e : Ending) (w' : World) : Prop :=
  Below w.heap.size w w' ∧ ((∃ c, Bad xs c ∧ e = .returned (.tuple #[.slice none 0 0, .int .i64 0, .int .i64 c])) ∨
    (∃ v ps s, IsB xs (ps.map (fun p : Pr => p.2)) s ∧ e = .returned (.tuple #[v, .int .i64 (s : Nat), .int .i64 0]) ∧ Ow w.heap.size w' v ps))
theorem rallQ {xs : List Int} {w : World} {e : Ending} {w' : World} (h : RAllP xs w e w') : RAllQ xs w e w' := by
  obtain ⟨hb, (⟨h1, h2⟩ | ⟨h1, h2, h3⟩ | ⟨h1, h2, h3, h4⟩ | h1)⟩ := h
  · exact ⟨hb, .inl ⟨4, .inl ⟨h1, rfl⟩, h2⟩⟩
  · exact ⟨hb, .inl ⟨5, .inr (.inl ⟨h1, h2, rfl⟩), h3⟩⟩
  · exact ⟨hb, .inl ⟨2, .inr (.inr ⟨h1, h2, h3, rfl⟩), h4⟩⟩
  · exact ⟨hb, .inr h1⟩
/-- What All tells. -/
def AllQ (xs : List Int) (w : World) (e : Ending) (w' : World) : Prop :=
  Below w.heap.size w w' ∧ ((∃ c, Bad xs c ∧ e = .returned (.tuple #[.slice none 0 0, .int .i64 c])) ∨
    (∃ v ps s, IsB xs (ps.map (fun p : Pr => p.2)) s ∧ e = .returned (.tuple #[v, .int .i64 0]) ∧ Ow w.heap.size w' v ps))
/-- What Restarts tells. -/
def RstQ (xs : List Int) (w : World) (e : Ending) (w' : World) : Prop :=
  Below w.heap.size w w' ∧ ((∃ c, Bad xs c ∧ e = .returned (.tuple #[.slice none 0 0, .int .i64 c])) ∨
    (∃ v es s, IsB xs es s ∧ e = .returned (.tuple #[v, .int .i64 0]) ∧ Nu .i64 3 w.heap.size w' v (intsN (endsB s es es.length))))
set_option maxHeartbeats 2000000 in
set_option maxRecDepth 100000 in
theorem block_all {w : World} {A : Option Addr} {n c : Nat} {xs : List Int} (h : Rd w .u8 A n c xs) (hc : n ≤ c) (hb : Byt xs) (hn : n ≤ 1000000) : Calls Try.prog 14 #[.slice A n c] w (AllQ xs w) := by
  have HR := Kp.mk ((block_read h hc hb hn).mono fun e w' hq => readQ hq)
  clear h hb
  go_enter Try.func14, Try.ntmps14
  go_wp2_with fail
  refine HR.out.mono ?_
  rintro e w1 ⟨hb1, (⟨cc, hbad, rfl⟩ | ⟨vl, vr, lo, hi, ps, s, hI, rfl, how, hnu⟩)⟩
  · have hb2 := alloc_below w1 (.cells #[.slice none 0 0, .slice none 0 0, .int .i64 0, .int .i64 0] 74)
    have HB := Kp.mk (hb1.trans (hb2.mono hb1.size))
    have HBad := Kp.mk hbad
    unfold toldZ
    clear hb1 hb2 hbad
    go_wp2_with fail
    go_ret2
    exact ⟨HB.out, .inl ⟨cc, HBad.out, rfl⟩⟩
  · obtain ⟨Ao, co, e3⟩ := how.slice
    subst e3
    obtain ⟨Ar, cr, e4⟩ := hnu.slice
    subst e4
    have hb2 := alloc_below w1 (.cells #[.slice Ao ps.length co, .slice Ar (intsN (endsB s (ps.map (fun p : Pr => p.2)) ps.length)).length cr, .int .i64 lo, .int .i64 hi] 74)
    have HB := Kp.mk (hb1.trans (hb2.mono hb1.size))
    have HO := Kp.mk (how.below hb2)
    have HI := Kp.mk hI
    generalize (intsN (endsB s (ps.map (fun p : Pr => p.2)) ps.length)).length = nr at *
    clear hb1 hb2 how hI hnu
    go_wp2_with fail
    go_ret2
    exact ⟨HB.out, .inr ⟨_, ps, s, HI.out, rfl, HO.out⟩⟩
set_option maxHeartbeats 2000000 in
set_option maxRecDepth 100000 in
theorem block_restarts {w : World} {A : Option Addr} {n c : Nat} {xs : List Int} (h : Rd w .u8 A n c xs) (hc : n ≤ c) (hb : Byt xs) (hn : n ≤ 1000000) : Calls Try.prog 17 #[.slice A n c] w (RstQ xs w) := by
  have HR := Kp.mk ((block_read h hc hb hn).mono fun e w' hq => readQ hq)
  clear h hb
  go_enter Try.func17, Try.ntmps17
  go_wp2_with fail
  refine HR.out.mono ?_
  rintro e w1 ⟨hb1, (⟨cc, hbad, rfl⟩ | ⟨vl, vr, lo, hi, ps, s, hI, rfl, how, hnu⟩)⟩
  · have hb2 := alloc_below w1 (.cells #[.slice none 0 0, .slice none 0 0, .int .i64 0, .int .i64 0] 74)
    have HB := Kp.mk (hb1.trans (hb2.mono hb1.size))
    have HBad := Kp.mk hbad
    unfold toldZ
    clear hb1 hb2 hbad
    go_wp2_with fail
    go_ret2
    exact ⟨HB.out, .inl ⟨cc, HBad.out, rfl⟩⟩
  · obtain ⟨Ao, co, e3⟩ := how.slice
    subst e3
    obtain ⟨Ar, cr, e4⟩ := hnu.slice
    subst e4
    have HB := Kp.mk hb1
    have HN := Kp.mk hnu
    have HI := Kp.mk hI
    obtain ⟨es, hes⟩ : ∃ es, es = ps.map (fun p : Pr => p.2) := ⟨_, rfl⟩
    have hpl : ps.length = es.length := by rw [hes, List.length_map]
    rw [← hes, hpl] at HN
    rw [← hes] at HI
    rw [← hes, hpl]
    obtain ⟨rr, hrr⟩ : ∃ rr, rr = intsN (endsB s es es.length) := ⟨_, rfl⟩
    rw [← hrr] at HN
    rw [← hrr]
    obtain ⟨nr, hnr⟩ : ∃ nr, nr = rr.length := ⟨_, rfl⟩
    rw [← hnr] at HN
    rw [← hnr]
    have HRR := Kp.mk hrr
    clear hb1 how hI hnu hes hpl hrr hnr
    go_wp2_with fail
    go_ret2
    exact ⟨HB.out.trans ((alloc_below _ _).mono HB.out.size), .inr ⟨_, es, s, HI.out, rfl, by rw [← HRR.out]; exact HN.out.below (alloc_below _ _)⟩⟩
end Go.Proofs.Ytinffeffffligaa.Bas
