import Derived.Test.YtpgkpigpehehmaaMrgE
set_option linter.unusedVariables false
set_option linter.unusedSimpArgs false
namespace Go.Proofs.Ytpgkpigpehehmaa.Bas
open Go.RowKit Go.Maps Go.Sort Go.Shelf

set_option maxHeartbeats 2000000 in
set_option maxRecDepth 100000 in
theorem stable_small {w0 : World} (w : World) (blk off cap : Nat) (d : Array (Cell4 w0)) (hb : Below w0.heap.size w0 w) (hB : w0.heap.size ≤ blk) (hH : HoldsK (encC (w0 := w0)) 4 w blk off d) (hblk : blk < w.heap.size) (hsz : d.size < 20) :
    Calls Try.prog 25 #[.slice (some ⟨blk, off, none⟩) d.size cap, .int .i64 d.size, .func (.func 19) #[] #[]] w fun e w' =>
      e = .returned (.tuple #[]) ∧ ∃ n os, w' = sortWorldK (encC (w0 := w0)) 4 w blk off n (Sort.insertionSort (ltOf cfC) d 0 d.size) os := by
  have Hi := Kp.mk (ins_lib w blk off cap 0 d.size d (cmp_lays hb hB) hH hblk (by omega) (by omega) (by omega))
  clear hb hB hH
  obtain ⟨z, hz⟩ : ∃ z, z = d.size := ⟨_, rfl⟩
  rw [← hz] at hsz
  have h20 : ¬ (20 : Int) ≤ (z : Int) := by omega
  rw [← hz] at Hi ⊢
  clear hz
  go_enter Try.func25, Try.ntmps25
  go_wp2_with fail
  go_loopw [7, 8] (fun u v wr => u = .int .i64 0 ∧ v = .int .i64 20 ∧ wr = w) (fun _ _ _ => 0)
  case atStart => exact ⟨rfl, rfl, rfl⟩
  case round =>
    obtain ⟨rfl, rfl, rfl⟩ := hrel
    go_wp2_with (go_at_call 32; refine Hi.out.mono ?_; rintro e w1 ⟨rfl, n1, os1, rfl⟩)
    generalize hW : sortWorldK (encC (w0 := w0)) 4 _ _ _ _ _ _ = W
    go_loopw [6] (fun u wr => u = .int .i64 20 ∧ wr = W) (fun _ _ => 0)
    case atStart => exact ⟨rfl, rfl⟩
    case round =>
      obtain ⟨rfl, rfl⟩ := hrel
      go_wp2
      go_end0
      exact ⟨rfl, n1, os1, hW.symm⟩

set_option maxHeartbeats 1000000 in
set_option maxRecDepth 100000 in
theorem sort_small {w0 : World} (w : World) (blk off cap : Nat) (d : Array (Cell4 w0)) (hb : Below w0.heap.size w0 w) (hB : w0.heap.size ≤ blk) (hH : HoldsK (encC (w0 := w0)) 4 w blk off d) (hblk : blk < w.heap.size) (hsz : d.size < 20) :
    Calls Try.prog 18 #[.slice (some ⟨blk, off, none⟩) d.size cap, .func (.func 19) #[] #[]] w fun e w' =>
      e = .returned (.tuple #[]) ∧ ∃ n os, w' = sortWorldK (encC (w0 := w0)) 4 w blk off n (Sort.insertionSort (ltOf cfC) d 0 d.size) os := by
  have Hs := Kp.mk (stable_small w blk off cap d hb hB hH hblk hsz)
  clear hb hB hH
  obtain ⟨z, hz⟩ : ∃ z, z = d.size := ⟨_, rfl⟩
  rw [← hz] at Hs ⊢
  clear hz hsz
  go_enter Try.func18, Try.ntmps18
  go_wp2_with fail
  refine Hs.out.mono ?_
  rintro e w1 ⟨rfl, n1, os1, rfl⟩
  generalize hW : sortWorldK (encC (w0 := w0)) 4 _ _ _ _ _ _ = W
  go_wp2
  go_end0
  exact ⟨rfl, n1, os1, hW.symm⟩
end Go.Proofs.Ytpgkpigpehehmaa.Bas
