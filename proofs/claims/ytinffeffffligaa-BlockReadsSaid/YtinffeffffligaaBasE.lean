import Derived.Test.YtinffeffffligaaBasD
set_option linter.unusedVariables false
set_option linter.unusedSimpArgs false
namespace Go.Proofs.Ytinffeffffligaa.Bas
open Go.RowKit Go.Maps

def cmpN (x y : Int) : Int := if x < y then -1 else if y < x then 1 else 0
theorem cmpN_lt {x y : Int} (h : x < y) : cmpN x y = -1 := if_pos h
theorem cmpN_gt {x y : Int} (h : y < x) : cmpN x y = 1 := by unfold cmpN; rw [if_neg (by omega), if_pos h]
theorem cmpN_eq {x y : Int} (h : x = y) : cmpN x y = 0 := by unfold cmpN; rw [if_neg (by omega), if_neg (by omega)]
theorem nan_u64 (x : Int) (w : World) : Calls Try.prog 66 #[.int .u64 x] w fun e w' => e = .returned (.bool false) ∧ w' = w := by
  go_enter Try.func66, Try.ntmps66
  go_wp2
  go_ret
  exact ⟨rfl, rfl⟩
theorem nan_int (x : Int) (w : World) : Calls Try.prog 67 #[.int .i64 x] w fun e w' => e = .returned (.bool false) ∧ w' = w := by
  go_enter Try.func67, Try.ntmps67
  go_wp2
  go_ret
  exact ⟨rfl, rfl⟩
set_option maxHeartbeats 1000000 in
theorem compare_u64 (x y : Int) (w : World) : Calls Try.prog 60 #[.int .u64 x, .int .u64 y] w fun e w' => e = .returned (.int .i64 (cmpN x y)) ∧ w' = w := by
  rcases Int.lt_trichotomy x y with h | h | h
  · have hv := Kp.mk (cmpN_lt h)
    go_enter Try.func60, Try.ntmps60
    go_wp2_with (go_at_call 66; refine (nan_u64 _ _).mono ?_; rintro e w' ⟨rfl, rfl⟩)
    go_ret
    exact ⟨ret_int hv.out.symm, rfl⟩
  · have hv := Kp.mk (cmpN_eq h)
    go_enter Try.func60, Try.ntmps60
    go_wp2_with (go_at_call 66; refine (nan_u64 _ _).mono ?_; rintro e w' ⟨rfl, rfl⟩)
    go_ret
    exact ⟨ret_int hv.out.symm, rfl⟩
  · have hv := Kp.mk (cmpN_gt h)
    go_enter Try.func60, Try.ntmps60
    go_wp2_with (go_at_call 66; refine (nan_u64 _ _).mono ?_; rintro e w' ⟨rfl, rfl⟩)
    go_ret
    exact ⟨ret_int hv.out.symm, rfl⟩
set_option maxHeartbeats 1000000 in
theorem compare_int (x y : Int) (w : World) : Calls Try.prog 61 #[.int .i64 x, .int .i64 y] w fun e w' => e = .returned (.int .i64 (cmpN x y)) ∧ w' = w := by
  rcases Int.lt_trichotomy x y with h | h | h
  · have hv := Kp.mk (cmpN_lt h)
    go_enter Try.func61, Try.ntmps61
    go_wp2_with (go_at_call 67; refine (nan_int _ _).mono ?_; rintro e w' ⟨rfl, rfl⟩)
    go_ret
    exact ⟨ret_int hv.out.symm, rfl⟩
  · have hv := Kp.mk (cmpN_eq h)
    go_enter Try.func61, Try.ntmps61
    go_wp2_with (go_at_call 67; refine (nan_int _ _).mono ?_; rintro e w' ⟨rfl, rfl⟩)
    go_ret
    exact ⟨ret_int hv.out.symm, rfl⟩
  · have hv := Kp.mk (cmpN_gt h)
    go_enter Try.func61, Try.ntmps61
    go_wp2_with (go_at_call 67; refine (nan_int _ _).mono ?_; rintro e w' ⟨rfl, rfl⟩)
    go_ret
    exact ⟨ret_int hv.out.symm, rfl⟩
end Go.Proofs.Ytinffeffffligaa.Bas
