import Derived.Test.YtinffeffffligaaBlU
set_option linter.unusedVariables false
set_option linter.unusedSimpArgs false
namespace Go.Proofs.Ytinffeffffligaa.Bas
open Go.RowKit Go.Maps

/-! ### Build, by the reference -/
def SeqE (es : List En) : Prop := ∀ j, j < es.length → 0 ≤ (es.getD j enD).k.seq
theorem good_of {w : World} {A : Option Addr} {n c : Nat} {es : List En} (h : Es w A n c es) (hs : SeqE es) (hc : chkB es = 0) : GoodE es ∧ risesFrom es = true := by
  unfold chkB at hc
  by_cases h1 : es.all (fun e => decide (RightE e)) = true
  · rw [if_pos h1] at hc
    by_cases h2 : risesFrom es = true
    · rw [if_pos h2] at hc
      by_cases h3 : 10000 < es.length
      · rw [if_pos h3] at hc; cases hc
      · refine ⟨⟨fun j hj => ?_, hs, fun j hj => ?_, by omega⟩, h2⟩
        · have := List.all_eq_true.1 h1 (es.getD j enD) (by simp [List.getD, hj])
          exact of_decide_eq_true this
        · obtain ⟨b, off, _, hcell⟩ := h.cell (by have := h.len; omega)
          obtain ⟨vs, hv, _⟩ := hcell j (by have := h.len; omega)
          obtain ⟨_, _, _, _, _, _, _, _, b1, _, b2⟩ := hv
          exact ⟨b1, b2⟩
    · rw [if_neg h2] at hc; cases hc
  · rw [if_neg h1] at hc; cases hc
def clampN (s : Int) : Nat := (if s < 1 then (1 : Int) else if 100 < s then 100 else s).toNat
theorem clampN_in (s : Int) : 1 ≤ clampN s ∧ clampN s ≤ 100 ∧ (if s < 1 then (1 : Int) else if 100 < s then 100 else s) = (clampN s : Int) := by
  unfold clampN
  split
  · omega
  · split <;> omega
/-- What Build tells. -/
def BuildP (es : List En) (s : Int) (w : World) (e : Ending) (w' : World) : Prop :=
  Below w.heap.size w w' ∧ ((chkB es ≠ 0 ∧ e = .returned (.tuple #[.slice none 0 0, .int .i64 (chkB es)])) ∨
    (chkB es = 0 ∧ ∃ A n c, e = .returned (.tuple #[.slice A n c, .int .i64 0]) ∧ Nu .u8 5 w.heap.size w' (.slice A n c) (buildB (clampN s) es)))
set_option maxHeartbeats 2000000 in
set_option maxRecDepth 100000 in
theorem ref_build {w : World} {A : Option Addr} {n c : Nat} {es : List En} (h : Es w A n c es) (hs : SeqE es) (s : Int) :
    Calls Try.prog 12 #[.slice A n c, .int .i64 s] w (BuildP es s w) := by
  have hmay := ref_may h
  obtain ⟨k, hk⟩ : ∃ k, k = chkB es := ⟨_, rfl⟩
  rw [← hk] at hmay
  have HM := Kp.mk hmay
  have Hk := Kp.mk hk
  have H := Kp.mk h
  have HS := Kp.mk hs
  by_cases h0 : k = 0
  · subst h0
    have hg := (good_of h hs Hk.out.symm).1
    obtain ⟨c1, c2, c3⟩ := clampN_in s
    have hbt := fun W => ref_between W s 1 100
    rw [c3] at hbt
    have HBt := Kp.mk hbt
    have HBu := Kp.mk (fun (W : World) (hb : Below w.heap.size w W) => ref_buildl (h.below hb) hg c1 c2)
    obtain ⟨q, hq⟩ : ∃ q, q = clampN s := ⟨_, rfl⟩
    rw [← hq] at HBt HBu
    have Hq := Kp.mk hq
    clear h hs hmay hk hg c1 c2 c3 hbt hq
    go_enter Try.func12, Try.ntmps12
    go_wp2_with (first
      | (go_at_call 32; refine HM.out.mono ?_; rintro e w1 ⟨rfl, hb1⟩; have HB1 := Kp.mk hb1; clear hb1)
      | (go_at_call 34; refine (HBt.out _).mono ?_; rintro e w2 ⟨rfl, hw2⟩; subst hw2)
      | (go_at_call 33; refine (HBu.out _ HB1.out).mono ?_; rintro e w3 ⟨A3, n3, c3, rfl, h1, h2⟩; have HN := Kp.mk (h1.lower HB1.out.size); have HB3 := Kp.mk (HB1.out.trans (h2.mono HB1.out.size)); clear h1 h2))
    go_ret2
    exact ⟨HB3.out, .inr ⟨Hk.out.symm, A3, n3, c3, rfl, by rw [← Hq.out]; exact HN.out⟩⟩
  · have hne : (k == 0) = false := by simpa using h0
    have Hne := Kp.mk h0
    clear h hs hmay hk h0
    go_enter Try.func12, Try.ntmps12
    go_wp2_with (go_at_call 32; refine HM.out.mono ?_; rintro e w1 ⟨rfl, hb1⟩; have HB1 := Kp.mk hb1; clear hb1)
    go_ret2
    exact ⟨HB1.out, .inl ⟨by rw [← Hk.out]; exact Hne.out, by rw [← Hk.out]; rfl⟩⟩
end Go.Proofs.Ytinffeffffligaa.Bas
