import Derived.Test.YtinffeffffligaaBlW
import Derived.Deep.RegionHeld3
set_option linter.unusedVariables false
set_option linter.unusedSimpArgs false
namespace Go.Proofs.Ytinffeffffligaa.Bas
open Go.RowKit Go.Maps

/-! ### The reader of a block: its numbers -/
/-- What Get tells, in one form. -/
def GetQ (xs : List Int) (at_ : Nat) (w : World) (e : Ending) (w' : World) : Prop :=
  w' = w ∧ ∃ (x to_ : Nat) (r : Int), e = .returned (.tuple #[.int .u64 (x : Nat), .int .i64 (to_ : Nat), .int .i64 r]) ∧ ((r = 0 ∧ VarAt xs at_ x to_) ∨ (r ≠ 0 ∧ ∀ x to_, ¬ VarAt xs at_ x to_))
theorem getQ {xs : List Int} {at_ : Nat} {w : World} {e : Ending} {w' : World} (h : GetP xs at_ w e w') : GetQ xs at_ w e w' := by
  obtain ⟨hw, (⟨x, t, he, hv⟩ | ⟨r, hr, he, hn⟩)⟩ := h
  · exact ⟨hw, x, t, 0, he, .inl ⟨rfl, hv⟩⟩
  · exact ⟨hw, 0, 0, r, he, .inr ⟨hr, hn⟩⟩
/-- What number tells. -/
def NumP (xs : List Int) (at_ limit g : Nat) (v0 v2 v3 v4 v5 : Value) (w : World) (e : Ending) (w' : World) : Prop :=
  Fr w w' (fun k => k = g) ∧ ((∃ x to_, VarAt xs at_ x to_ ∧ x ≤ limit ∧ e = .returned (.tuple #[.int .i64 (x : Nat), .bool true]) ∧ w'.heap[g]? = some (.cells #[v0, .int .i64 (to_ : Nat), v2, v3, v4, v5] 87 (0, 0))) ∨
    ((∀ x to_, VarAt xs at_ x to_ → limit < x) ∧ e = .returned (.tuple #[.int .i64 0, .bool false]) ∧ w'.heap[g]? = some (.cells #[v0, .int .i64 (at_ : Nat), v2, v3, v4, v5] 87 (0, 0))))
set_option maxHeartbeats 2000000 in
set_option maxRecDepth 100000 in
theorem number_any {w : World} {g : Nat} {A : Option Addr} {n c at_ limit : Nat} {xs : List Int} {v2 v3 v4 v5 : Value} (hg : w.heap[g]? = some (.cells #[.slice A n c, .int .i64 (at_ : Nat), v2, v3, v4, v5] 87 (0, 0)))
    (h : Rd w .u8 A n c xs) (hc : n ≤ c) (hb : Byt xs) (ha : at_ ≤ n) (hlim : limit < 9223372036854775808) :
    Calls Try.prog 68 #[.pointer (some ⟨g, 0, none⟩), .int .u64 (limit : Nat)] w (NumP xs at_ limit g (.slice A n c) v2 v3 v4 v5 w) := by
  have hm := h.max
  have hl := h.len
  have c0 := cells_top hg 0 (.slice A n c) rfl
  have c1 := cells_top hg 1 (.int .i64 (at_ : Nat)) rfl
  have f1 := free_top hg 1
  have hd : Below w.heap.size w w.drew := (Below.refl _ _).drew
  have hg' := (hd.block g (lt_of_block hg)).trans hg
  have c1d := cell_kept hd c1
  have f1d := free_top hg' 1
  have HG := Kp.mk hg'
  have HV := Kp.mk ((var_get (h.below hd) hc hb ha).mono fun e w' hq => getQ hq)
  have HFr : Kp (Fr w w.drew (fun k => k = g)) := ⟨Fr.of_below hd⟩
  clear h hb hg hg' hd
  go_enter Try.func68, Try.ntmps68
  go_wp2_with fail
  go_region_held3 (fun W => W.cell? ⟨g, 0, none⟩ = some (.slice A n c) ∧ W.cell? ⟨g, 1, none⟩ = some (.int .i64 (at_ : Nat))) (first | go_keep | exact ⟨c0, c1⟩)
    ((go_at_call 70; refine HV.out.mono ?_; rintro e w1 ⟨hw1, x, t, r, rfl, hcs⟩; subst hw1; have HC := Kp.mk hcs; clear hcs))
  obtain ⟨hcs⟩ := HC
  rcases hcs with ⟨rfl, hv⟩ | ⟨hr, hn⟩
  · by_cases hx : x ≤ limit
    · have hxw : IntKind.i64.wrap (x : Int) = (x : Int) := IntWalk.i64_in _ (by omega)
      have HVt := Kp.mk hv
      clear hv
      go_wp2_with fail
      go_ret2
      exact ⟨HFr.out.setCell (a := ⟨g, 1, none⟩) (.inl rfl) _, .inl ⟨x, t, HVt.out, hx, rfl, heap_setCell_same _ _ 1 _ _ (.int .i64 (t : Nat)) HG.out⟩⟩
    · have HNo : Kp (∀ x to_, VarAt xs at_ x to_ → limit < x) := ⟨fun y q hq => by have := (hq.one hv).1; omega⟩
      have hlx : limit < x := by omega
      clear hv
      go_wp2_with fail
      go_ret2
      exact ⟨HFr.out, .inr ⟨HNo.out, rfl, HG.out⟩⟩
  · have HNo : Kp (∀ x to_, VarAt xs at_ x to_ → limit < x) := ⟨fun y q hq => absurd hq (hn y q)⟩
    have hr0 : (r == 0) = false := by simpa using hr
    have hr1 : (r != 0) = true := by simpa using hr
    clear hn hr
    go_wp2_with fail
    go_ret2
    exact ⟨HFr.out, .inr ⟨HNo.out, rfl, HG.out⟩⟩
end Go.Proofs.Ytinffeffffligaa.Bas
