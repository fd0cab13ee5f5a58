import Derived.Test.YtpgkpigpehehmaaSymA
set_option linter.unusedVariables false
set_option linter.unusedSimpArgs false
namespace Go.Proofs.Ytpgkpigpehehmaa.Bas
open Go.RowKit Go.Maps Go.Sort Go.Shelf Go.Lib

/-- What a contract of the sort's family tells: the row holds d'. -/
def RowTo {α : Type} [Inhabited α] (enc : α → List Value) (k : Nat) (w0 : World) (blk off : Nat) (n : Nat) (F : Nat → α) (e : Ending) (w' : World) : Prop :=
  e = .returned (.tuple #[]) ∧ ∃ d' : Array α, d'.size = n ∧ SWK enc k w0 blk off d' w' ∧ get d' = F
set_option maxHeartbeats 4000000 in
set_option maxRecDepth 1000000 in
theorem swap_range {α : Type} [Inhabited α] {enc : α → List Value} {k : Nat} (hk : k = 4) {blk off cap : Nat} {d0 d : Array α} {w0 w : World} (g : Nat) (a b n : Nat)
    (R : RowK enc k w0 blk off d0) (hs : d0.size = d.size) (S : SWK enc k w0 blk off d w) (ha : a + n ≤ b) (hb : b + n ≤ d.size) (hsz : d.size ≤ 1000000) :
    Calls Try.prog 38 #[.slice (some ⟨blk, off, none⟩) d.size cap, .int .i64 a, .int .i64 b, .int .i64 n, .func (.func g) #[] #[]] w (RowTo enc k w0 blk off d.size (swpF (get d) a b n)) := by
  have S0 : Aside (SWK enc k w0 blk off d w) := S
  clear S
  have aE := Try.isAgg40
  have zE : ∀ w, (Go.sizeOf 40).run Try.prog w = .ok k w := by rw [hk]; exact Try.sizeOf40
  have mixed : Try.prog.follows .mixedOrders = true := by kernel_rfl
  have t0 := Try.underlying0; have a0 := Try.isAgg0; have z0 := Try.sizeOf0; have v0 := Try.zeroValue0
  have t3 := Try.underlying3; have a3 := Try.isAgg3; have z3 := Try.sizeOf3; have v3 := Try.zeroValue3
  have t4 := Try.underlying4; have a4 := Try.isAgg4; have z4 := Try.sizeOf4; have v4 := Try.zeroValue4
  have t22 := Try.underlying25; have a22 := Try.isAgg25; have z22 := Try.sizeOf25; have v22 := Try.zeroValue25
  have t25 := Try.underlying46; have a25 := Try.isAgg46; have z25 := Try.sizeOf46; have v25 := Try.zeroValue46
  clear hk
  go_enter Try.func38, Try.ntmps38
  generalize Try.prog = P at *
  go_wp2
  go_loopw [10] (fun s wr => ∃ (i : Nat) (dk : Array α), s = .int .i64 i ∧ i ≤ n ∧ dk.size = d.size ∧ Aside (SWK enc k w0 blk off dk wr) ∧ Aside (get dk = swpF (get d) a b i)) (fun s _ => n - (intOf s).toNat)
  case atStart => exact ⟨0, d, rfl, Nat.zero_le _, rfl, S0, (swpF_zero _ _ _).symm⟩
  case round =>
    clear S0
    obtain ⟨i, dk, rfl, hi, hds, S1, HG⟩ := hrel
    by_cases hlt : i < n
    · have hltz : (i : Int) < (n : Int) := by omega
      go_wp2_with fail
      have ea44 : ((a : Int) + (i : Int)).toNat = a + i := by omega
      have pa44 : (0 : Int) ≤ (a : Int) + (i : Int) := by omega
      have ba44 : (a : Int) + (i : Int) < (d.size : Int) := by omega
      have ra44 : IntKind.i64.wrap ((a : Int) + (i : Int)) = (a : Int) + (i : Int) := by rw [IntKind.wrap_i64]; omega
      have ec44 : ((b : Int) + (i : Int)).toNat = b + i := by omega
      have pc44 : (0 : Int) ≤ (b : Int) + (i : Int) := by omega
      have bc44 : (b : Int) + (i : Int) < (d.size : Int) := by omega
      have rc44 : IntKind.i64.wrap ((b : Int) + (i : Int)) = (b : Int) + (i : Int) := by rw [IntKind.wrap_i64]; omega
      have S2 : Aside (SWK enc k w0 blk off (swp dk (a + i) (b + i)) ((wr.drew.setCells blk (off + (a + i) * k) (enc dk[b + i]!)).setCells blk (off + (b + i) * k) (enc dk[a + i]!))) := S1.out.swapped R (a + i) (b + i) (by omega) (by omega)
      have HN : Aside (get (swp dk (a + i) (b + i)) = swpF (get d) a b (i + 1)) := swpF_succ hds ha hb hlt HG.out
      have l44a := S1.out.ld1 R (by omega) P (a + i) (by omega)
      have l44b := S1.out.ld1 R (by omega) P (b + i) (by omega)
      have s44a := S1.out.st1 R (by omega) P (a + i) (by omega) dk[b + i]!
      have s44b := S1.out.st2 R (by omega) P (a + i) (b + i) (by omega) (by omega) dk[b + i]! dk[a + i]!
      have n44a : (enc dk[a + i]!).length = k := R.hk _
      have n44b : (enc dk[b + i]!).length = k := R.hk _
      have hsw : (swp dk (a + i) (b + i)).size = d.size := by rw [size_swp]; exact hds
      generalize enc dk[a + i]! = cI44 at S2 l44a s44b n44a
      generalize enc dk[b + i]! = cJ44 at S2 l44b s44a s44b n44b
      generalize swp dk (a + i) (b + i) = dn at S2 HN hsw
      clear S1 HG
      go_big_region_o
      clear l44a l44b s44a s44b
      generalize (wr.drew.setCells blk (off + (a + i) * k) cJ44).setCells blk (off + (b + i) * k) cI44 = w2 at S2 ⊢
      go_wp2_with fail
      go_roundw
      case rel => exact ⟨i + 1, dn, by go_num, by omega, hsw, S2, HN⟩
      case measure => simp [intOf]; omega
    · obtain rfl : i = n := by omega
      go_wp2
      go_end0
      exact ⟨rfl, dk, hds, S1.out, HG.out⟩
end Go.Proofs.Ytpgkpigpehehmaa.Bas
