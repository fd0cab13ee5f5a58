import Derived.Test.YtpgkpigpehehmaaMrgP
set_option linter.unusedVariables false
set_option linter.unusedSimpArgs false
namespace Go.Proofs.Ytpgkpigpehehmaa.Bas
open Go.RowKit Go.Maps Go.Sort Go.Shelf Go.Lib

/-! ### slices.Reverse of a row of the call's own -/
def revF {α : Type} (f : Nat → α) (n i : Nat) : Nat → α := fun k => if k < i ∨ (n - i ≤ k ∧ k < n) then f (n - 1 - k) else f k
theorem revF_zero {α : Type} (f : Nat → α) (n : Nat) : revF f n 0 = f := by
  funext k
  unfold revF
  rw [if_neg (by omega)]
theorem revF_succ {α : Type} [Inhabited α] {f : Nat → α} {dk : Array α} {n i j : Nat} (hn : n = i + j + 1) (hij : i < j) (hsz : j < dk.size) (h : get dk = revF f n i) : get (swp dk i j) = revF f n (i + 1) := by
  funext k
  rw [get_swp dk (by omega) hsz, h]
  unfold revF
  repeat' split
  all_goals first | rfl | (congr 1; omega) | (exfalso; omega)
theorem revF_end {α : Type} {f : Nat → α} {n i : Nat} (h1 : 2 * i ≤ n) (h2 : n ≤ 2 * i + 1) : ∀ k, k < n → revF f n i k = f (n - 1 - k) := fun k hk => by
  unfold revF
  split
  · rfl
  · congr 1; omega
theorem swk_fr {w0 W w' : World} {blk : Nat} {d : Array (Cell4 w0)} (h : SWK (encC (w0 := w0)) 4 W blk 0 d w') : Fr W w' (fun k => k = blk) := by
  obtain ⟨m, os, rfl⟩ := h
  refine ⟨rfl, rfl, rfl, size_sortWorldK_c _ _ _ _ _ _ _ _, fun k hk hne => ?_⟩
  show ((putRowK (encC (w0 := w0)) 4 (Sort.ahead W m) blk 0 d).heap ++ os)[k]? = _
  rw [Array.getElem?_append_left (by rw [size_putRowK]; exact hk)]
  show (Array.modify _ _ _)[k]? = _
  rw [Array.getElem?_modify, if_neg (fun e => hne e.symm)]
  rfl
set_option maxHeartbeats 4000000 in
set_option maxRecDepth 1000000 in
theorem reverse_any {α : Type} [Inhabited α] {enc : α → List Value} {k : Nat} (hk : k = 4) {blk off cap : Nat} {d : Array α} {w : World}
    (R : RowK enc k w blk off d) (hsz : d.size ≤ 1000000) :
    Calls Try.prog 24 #[.slice (some ⟨blk, off, none⟩) d.size cap] w fun e w' => e = .returned (.tuple #[]) ∧ ∃ d' : Array α, d'.size = d.size ∧ SWK enc k w blk off d' w' ∧ ∀ q, q < d.size → get d' q = get d (d.size - 1 - q) := by
  have S0 : Aside (SWK enc k w blk off d w) := SWK.start R.hH
  have aE := Try.isAgg40
  have zE : ∀ w, (Go.sizeOf 40).run Try.prog w = .ok k w := by rw [hk]; exact Try.sizeOf40
  have mixed : Try.prog.follows .mixedOrders = true := by kernel_rfl
  have t0 := Try.underlying0; have a0 := Try.isAgg0; have z0 := Try.sizeOf0; have v0 := Try.zeroValue0
  have t3 := Try.underlying3; have a3 := Try.isAgg3; have z3 := Try.sizeOf3; have v3 := Try.zeroValue3
  have t4 := Try.underlying4; have a4 := Try.isAgg4; have z4 := Try.sizeOf4; have v4 := Try.zeroValue4
  have t22 := Try.underlying25; have a22 := Try.isAgg25; have z22 := Try.sizeOf25; have v22 := Try.zeroValue25
  have r0 : IntKind.i64.wrap ((d.size : Int) - 1) = (d.size : Int) - 1 := by rw [IntKind.wrap_i64]; omega
  obtain ⟨n, hn⟩ : ∃ n, n = d.size := ⟨_, rfl⟩
  have Hn := Kp.mk hn
  rw [← hn] at hsz r0 ⊢
  clear hk hn
  go_enter Try.func24, Try.ntmps24
  generalize Try.prog = P at *
  go_wp2_with fail
  go_loopw [2, 3] (fun s t wr => ∃ (i : Nat) (dk : Array α), s = .int .i64 i ∧ t = .int .i64 ((n : Int) - 1 - (i : Int)) ∧ 2 * i ≤ n ∧ Kp (dk.size = n) ∧ Aside (SWK enc k w blk off dk wr) ∧ Kp (get dk = revF (get d) n i)) (fun s _ _ => n - (intOf s).toNat)
  case atStart => exact ⟨0, d, rfl, by first | rfl | go_num | (congr 1; omega), by omega, ⟨Hn.out.symm⟩, S0, ⟨(revF_zero _ _).symm⟩⟩
  case round =>
    clear S0
    obtain ⟨i, dk, rfl, rfl, hi, hds, S1, HG⟩ := hrel
    by_cases hlt : (i : Int) < (n : Int) - 1 - (i : Int)
    · obtain ⟨j, hj⟩ : ∃ j : Nat, (n : Int) - 1 - (i : Int) = (j : Int) := ⟨n - 1 - i, by omega⟩
      have hnj : Kp (n = i + j + 1 ∧ i < j) := ⟨by omega, by omega⟩
      rw [hj] at hlt ⊢
      have HN : Kp (get (swp dk i j) = revF (get d) n (i + 1)) := ⟨revF_succ hnj.out.1 hnj.out.2 (by have := hds.out; have := hnj.out; omega) HG.out⟩
      have hdi : i < dk.size := by have := hds.out; have := hnj.out; omega
      have hdj : j < dk.size := by have := hds.out; have := hnj.out; omega
      have hd0 : dk.size = d.size := by rw [hds.out]; exact Hn.out
      have rj : IntKind.i64.wrap ((j : Int) - 1) = (j : Int) - 1 := by rw [IntKind.wrap_i64]; have := hnj.out; omega
      have S2 : Aside (SWK enc k w blk off (swp dk i j) ((wr.drew.setCells blk (off + i * k) (enc dk[j]!)).setCells blk (off + j * k) (enc dk[i]!))) := S1.out.swapped R i j hdi hdj
      have l44a := S1.out.ld1 R hd0 P i hdi
      have l44b := S1.out.ld1 R hd0 P j hdj
      have s44a := S1.out.st1 R hd0 P i hdi dk[j]!
      have s44b := S1.out.st2 R hd0 P i j hdi hdj dk[j]! dk[i]!
      have n44a : (enc dk[i]!).length = k := R.hk _
      have n44b : (enc dk[j]!).length = k := R.hk _
      have hsw : Kp ((swp dk i j).size = n) := ⟨by rw [size_swp]; exact hds.out⟩
      clear hj hdi hdj hd0
      go_wp2_with fail
      have ea44 : ((i : Int)).toNat = i := by omega
      have pa44 : (0 : Int) ≤ (i : Int) := by omega
      have ba44 : (i : Int) < (n : Int) := by have := hnj.out; omega
      have ec44 : ((j : Int)).toNat = j := by omega
      have pc44 : (0 : Int) ≤ (j : Int) := by omega
      have bc44 : (j : Int) < (n : Int) := by have := hnj.out; omega
      generalize enc dk[i]! = cI44 at S2 l44a s44b n44a
      generalize enc dk[j]! = cJ44 at S2 l44b s44a s44b n44b
      generalize swp dk i j = dn at S2 HN hsw
      clear S1 HG hds
      go_big_region_o
      clear l44a l44b s44a s44b
      generalize (wr.drew.setCells blk (off + i * k) cJ44).setCells blk (off + j * k) cI44 = w2 at S2 ⊢
      go_wp2_with fail
      go_roundw
      case rel => exact ⟨i + 1, dn, by first | rfl | go_num, by first | rfl | (have := hnj.out; congr 1; omega), by have := hnj.out; omega, hsw, S2, HN⟩
      case measure => simp [intOf]; have := hnj.out; omega
    · have HE := Kp.mk (revF_end (f := get d) (n := n) (i := i) hi (by omega))
      go_wp2_with fail
      go_end0
      exact ⟨rfl, dk, hds.out, S1.out, fun q hq => by rw [HG.out]; exact HE.out q hq⟩
end Go.Proofs.Ytpgkpigpehehmaa.Bas
