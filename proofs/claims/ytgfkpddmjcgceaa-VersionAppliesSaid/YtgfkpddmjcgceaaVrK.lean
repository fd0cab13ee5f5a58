import Derived.Test.YtgfkpddmjcgceaaVrA
import Derived.Test.YtgfkpddmjcgceaaKaE
import Derived.Test.YtgfkpddmjcgceaaWZeros
set_option linter.unusedVariables false
set_option linter.unusedSimpArgs false
namespace Go.Proofs.Ytgfkpddmjcgceaa.Kx
open Go.RowKit Go.Maps Go.Proofs.YtgfkpddmjcgceaaW.PrintWords

theorem Try.infoRn : (Try.prog.info? 42).map (fun i => (i.zero, i.size, i.bytes)) = some (some (.agg #[.int .i64 0, .int .i64 0, .int .i64 0, .slice none 0 0, .slice none 0 0, .int .u64 0]), 6, 80) := by kernel_rfl
theorem zero_run (w : World) : kRn.K w zRn [.int .i64 0, .int .i64 0, .int .i64 0, .slice none 0 0, .slice none 0 0, .int .u64 0] := kRn_mk w zRn (A3 := none) (c3 := 0) (Nat.zero_le _) (Kd.C_nil _ _) (A4 := none) (c4 := 0) (Nat.zero_le _) (Kd.C_nil _ _)
def GrownQ (w0 : World) (w : World) (e : Ending) (w' : World) : Prop := ∃ v, e = .returned v ∧ (Kd.fixed kRn w0).R 42 w' w.heap.size (fun _ => True) v [] ∧ Below w.heap.size w w'
set_option maxHeartbeats 1000000 in
set_option maxRecDepth 100000 in
theorem grow_nil (w0 w : World) (m : Nat) (hm : m ≤ 1000000) : Calls Try.prog 43 #[.slice none 0 0, .int .i64 m] w (GrownQ w0 w) := by
  rcases Nat.eq_zero_or_pos m with h0 | h0
  · subst h0
    go_enter Try.func43, Try.ntmps43
    go_wp2
    go_ret
    exact ⟨_, rfl, Kd.R_nil _ _ _ _ _, Below.refl _ _⟩
  · have HR0 := Kp.mk (Kd.R_nil (Kd.fixed kRn w0) 42 w w.heap.size (fun _ => True))
    obtain ⟨i0, hi0, _, _, _⟩ := info_parts Try.infoRn
    have hcut := cut_to (P := Try.prog) 24 42 .i64 Try.underlying24 hi0 none 0 0 (0 : Int) (by omega) (by omega) (by omega)
    rw [show (0 : Int).toNat = 0 from rfl] at hcut
    have Hi0 := Kp.mk hi0
    clear hi0
    go_enter Try.func43, Try.ntmps43
    go_wp2_with (at_builtin; refine Kd.R_append_zeros (Kd.fixed kRn w0) (w0 := w) w.heap.size rfl (.tmp 20) (.tmp 21) 24 3 42 (.agg #[.int .i64 0, .int .i64 0, .int .i64 0, .slice none 0 0, .slice none 0 0, .int .u64 0]) 80 rfl Try.underlying24 Try.underlying3 Try.infoRn rfl (Nat.succ_pos 5) (by decide) (.slice none 0 0) [] zRn (kx := .i64) (m : Int) (fun _ => True) rfl rfl (zero_run w0) (fun _ _ => trivial) HR0.out (by omega) (Below.refl _ _) (Nat.le_refl _) (by simp; omega) ?_; intro v1 w1 hR hB hg hat; simp only [Int.toNat_natCast, List.nil_append] at hR; obtain ⟨A1, c1, rfl⟩ := Kd.R_slice hR; have hcut1 := cut_to (P := Try.prog) 24 42 .i64 Try.underlying24 Hi0.out A1 (List.replicate m zRn).length c1 (0 : Int) (by omega) (by omega) (Kd.R_reads' hR).2.1; rw [show (0 : Int).toNat = 0 from rfl, List.length_replicate] at hcut1; have HR := Kp.mk hR; have HB := Kp.mk hB; clear hR hB hg hat)
    go_ret
    exact ⟨_, rfl, by have := Kd.R_take HR.out (m := 0) (Nat.zero_le _); exact this, HB.out⟩
end Go.Proofs.Ytgfkpddmjcgceaa.Kx
