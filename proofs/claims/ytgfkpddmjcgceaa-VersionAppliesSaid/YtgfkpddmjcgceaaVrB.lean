import Derived.Test.YtgfkpddmjcgceaaVrA
set_option linter.unusedVariables false
set_option linter.unusedSimpArgs false
namespace Go.Proofs.Ytgfkpddmjcgceaa.Kx
open Go.RowKit Go.Maps Go.Proofs.YtgfkpddmjcgceaaW.PrintWords
attribute [local go_sem] max2_int min2_int max_two min_two

theorem ret_no {r : Rn} (h : ¬ rnOk r) : Ending.returned (.bool false) = .returned (.bool (decide (rnOk r))) := by rw [decide_eq_false h]
theorem ret_yes {r : Rn} (h : rnOk r) : Ending.returned (.bool true) = .returned (.bool (decide (rnOk r))) := by rw [decide_eq_true h]
set_option maxHeartbeats 1000000 in
set_option maxRecDepth 100000 in
theorem edit_run {w : World} {A A' : Option Addr} {c c' : Nat} {r : Rn} (h : By w A r.first) (h' : By w A' r.last) :
    Calls Try.prog 33 #[.agg #[.int .i64 r.file, .int .i64 r.bytes, .int .i64 r.count, .slice A r.first.length c, .slice A' r.last.length c', .int .u64 r.seq]] w fun e w' => e = .returned (.bool (decide (rnOk r))) ∧ Below w.heap.size w w' := by
  have H := Kp.mk h
  have H' := Kp.mk h'
  clear h h'
  go_enter Try.func33, Try.ntmps33
  go_wp2_with (go_at_call 45; refine (bytes_compare (Kd.C_alloc H.out _) (Kd.C_alloc H'.out _)).mono ?_; rintro e w1 ⟨rfl, rfl⟩)
  all_goals
    go_ret
    refine ⟨?_, below_alloc (Below.refl _ _) _⟩
    first
    | exact ret_no (by unfold rnOk; omega)
    | exact ret_yes (by unfold rnOk; omega)
    | exact ret_bool (Bool.eq_iff_iff.2 (by simp only [decide_eq_true_eq]; unfold rnOk; omega))
set_option maxHeartbeats 8000000 in
set_option maxRecDepth 100000 in
theorem ref_run {w : World} {A A' : Option Addr} {c c' : Nat} {r : Rn} (h : By w A r.first) (h' : By w A' r.last) (b : Byt r.first) (b' : Byt r.last) :
    Calls Try.prog 36 #[.agg #[.int .i64 r.file, .int .i64 r.bytes, .int .i64 r.count, .slice A r.first.length c, .slice A' r.last.length c', .int .u64 r.seq]] w fun e w' => e = .returned (.bool (decide (rnOk r))) ∧ Below w.heap.size w w' := by
  have H := Kp.mk h
  have H' := Kp.mk h'
  have B := Kp.mk b
  have B' := Kp.mk b'
  clear h h' b b'
  have HB0 : Kp (Below w.heap.size w (w.alloc (.cells #[.int .i64 r.file, .int .i64 r.bytes, .int .i64 r.count, .slice A r.first.length c, .slice A' r.last.length c', .int .u64 r.seq] 42))) := ⟨below_alloc (Below.refl _ _) _⟩
  go_enter Try.func36, Try.ntmps36
  go_wp2_with (go_at_call 46; refine (ref_compare (Kd.C_alloc H.out _) (Kd.C_alloc H'.out _) B.out B'.out).mono ?_; rintro e w1 ⟨rfl, hb1⟩; have hc5 := (hb1.cell (p := ⟨w.heap.size, 5, none⟩) (by simp)); have HB1 := Kp.mk (below_then HB0.out (by simp) hb1); clear hb1)
  all_goals
    go_ret
    refine ⟨?_, by first | exact HB1.out | exact HB0.out⟩
    first
    | exact ret_no (by unfold rnOk; omega)
    | exact ret_yes (by unfold rnOk; omega)
    | exact ret_bool (Bool.eq_iff_iff.2 (by simp only [decide_eq_true_eq]; unfold rnOk; omega))
end Go.Proofs.Ytgfkpddmjcgceaa.Kx
