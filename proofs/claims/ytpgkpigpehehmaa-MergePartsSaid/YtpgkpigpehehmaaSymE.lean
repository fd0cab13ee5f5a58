import Derived.Test.YtpgkpigpehehmaaSymD
set_option linter.unusedVariables false
set_option linter.unusedSimpArgs false
namespace Go.Proofs.Ytpgkpigpehehmaa.Bas
open Go.RowKit Go.Maps Go.Sort Go.Shelf Go.Lib

/-- What symMerge tells. -/
def SymTo {α : Type} [Inhabited α] (enc : α → List Value) (k : Nat) (cf : α → α → Int) (w0 : World) (blk off N : Nat) (f : Nat → α) (a m b : Nat) (e : Ending) (w' : World) : Prop :=
  e = .returned (.tuple #[]) ∧ ∃ d' : Array α, d'.size = N ∧ SWK enc k w0 blk off d' w' ∧ SymOK (ltOf cf) f (get d') a m b

set_option maxHeartbeats 4000000 in
set_option maxRecDepth 1000000 in
theorem sym_a {α : Type} [Inhabited α] {enc : α → List Value} {k : Nat} (hk : k = 4) {cf : α → α → Int} {blk off cap : Nat} {d0 d : Array α} {w0 w : World} (a b : Nat)
    (R : RowK enc k w0 blk off d0) (hC : CmpLays Try.prog 19 #[] enc k cf blk off d0.size w0) (hs : d0.size = d.size) (S : SWK enc k w0 blk off d w) (hab : a + 1 < b) (hb : b ≤ d.size) (hsz : d.size ≤ 1000000)
    (hT : NT (ltOf cf)) (hv : Srt (ltOf cf) (get d) (a + 1) b) :
    Calls Try.prog 33 #[.slice (some ⟨blk, off, none⟩) d.size cap, .int .i64 a, .int .i64 ((a + 1 : Nat)), .int .i64 b, .func (.func 19) #[] #[]] w (SymTo enc k cf w0 blk off d.size (get d) a (a + 1) b) := by
  obtain ⟨m, hm⟩ : ∃ m, m = a + 1 := ⟨_, rfl⟩
  rw [← hm] at hab hv ⊢
  have Hm := Kp.mk hm
  have ham : a < m := by omega
  have S0 : Aside (SWK enc k w0 blk off d w) := S
  have HC : Aside (CmpLays Try.prog 19 #[] enc k cf blk off d0.size w0) := hC
  have HT := Kp.mk hT
  have HV := Kp.mk hv
  have r1 : IntKind.i64.wrap ((m : Int) - (a : Int)) = 1 := by rw [IntKind.wrap_i64]; omega
  have aE := Try.isAgg40
  have zE : ∀ w, (Go.sizeOf 40).run Try.prog w = .ok k w := by rw [hk]; exact Try.sizeOf40
  have eg : ∀ args w, (callFunc 19 args).run Try.prog w = .ok (.enter 19 args) w := enters_of Try.func19 (by kernel_rfl) rfl
  have mixed : Try.prog.follows .mixedOrders = true := by kernel_rfl
  have t0 := Try.underlying0; have a0 := Try.isAgg0; have z0 := Try.sizeOf0; have v0 := Try.zeroValue0
  have t3 := Try.underlying3; have a3 := Try.isAgg3; have z3 := Try.sizeOf3; have v3 := Try.zeroValue3
  have t4 := Try.underlying4; have a4 := Try.isAgg4; have z4 := Try.sizeOf4; have v4 := Try.zeroValue4
  have t59 := Try.underlying59; have a59 := Try.isAgg59; have z59 := Try.sizeOf59; have v59 := Try.zeroValue59
  have t22 := Try.underlying25; have a22 := Try.isAgg25; have z22 := Try.sizeOf25; have v22 := Try.zeroValue25
  have t25 := Try.underlying46; have a25 := Try.isAgg46; have z25 := Try.sizeOf46; have v25 := Try.zeroValue46
  clear hk hm S hC hT hv
  go_enter Try.func33, Try.ntmps33
  generalize Try.prog = P at *
  go_wp2_with fail
  go_loopw [10, 11] (fun s t wr => ∃ (i j : Nat), s = .int .i64 i ∧ t = .int .i64 j ∧ m ≤ i ∧ i ≤ j ∧ j ≤ b ∧ Aside (SWK enc k w0 blk off d wr) ∧ Kp (m < i → ltOf cf (get d (i - 1)) (get d a) = true) ∧ Kp (j < b → ltOf cf (get d j) (get d a) = false)) (fun s t _ => (intOf t).toNat - (intOf s).toNat)
  case atStart => exact ⟨m, b, rfl, rfl, Nat.le_refl _, by omega, Nat.le_refl _, S0, ⟨fun h => by omega⟩, ⟨fun h => by omega⟩⟩
  case round =>
    clear S0
    obtain ⟨i, j, rfl, rfl, hmi, hij, hjb, S1, HI, HJ⟩ := hrel
    by_cases hlt : i < j
    · have hltz : (i : Int) < (j : Int) := by omega
      go_wp2_with fail
      obtain ⟨h, hh⟩ : ∃ h : Nat, ((i : Int) + (j : Int)) / 2 = h := ⟨(i + j) / 2, by omega⟩
      rw [hh]
      have hih : i ≤ h := by omega
      have hhj : h < j := by omega
      clear hh
      have e1 : ((h : Int)).toNat = h := by omega
      have p1 : (0 : Int) ≤ (h : Int) := by omega
      have b1 : (h : Int) < (d.size : Int) := by omega
      have e2 : ((a : Int)).toNat = a := by omega
      have p2 : (0 : Int) ≤ (a : Int) := by omega
      have b2 : (a : Int) < (d.size : Int) := by omega
      have lj := S1.out.ld R hs.symm P h (by omega)
      have lp := S1.out.ld R hs.symm P a (by omega)
      have hcg := fun (n' : Nat) (os' : Array Obj) => S1.out.cmp HC.out hs.symm d[h]! d[a]! n' os'
      simp only [Array.append_empty] at hcg
      have Hd : Kp (ltOf cf (get d h) (get d a) = decide (cf d[h]! d[a]! < 0)) := ⟨rfl⟩
      have SG : Kp (∀ n os, SWK enc k w0 blk off d (grow (wr.drewN n) os)) := ⟨fun n os => S1.out.grown n os⟩
      generalize enc d[h]! = cH at lj hcg
      generalize enc d[a]! = cA at lp hcg
      obtain ⟨z, hz⟩ : ∃ z, z = cf d[h]! d[a]! := ⟨_, rfl⟩
      rw [← hz] at hcg Hd
      clear hz S1
      by_cases hneg : z < 0
      · rw [decide_eq_true hneg] at Hd
        go_quiet_grown (first | (go_at_call 19; refine Calls.grown_of (hcg _ _)))
        clear lj lp hcg
        go_wp2_with fail
        go_roundw
        case rel => exact ⟨h + 1, j, by first | rfl | go_num, rfl, by omega, by omega, hjb, SG.out nq osq, ⟨fun _ => by rw [Nat.add_sub_cancel]; exact Hd.out⟩, HJ⟩
        case measure => simp [intOf]; omega
      · rw [decide_eq_false hneg] at Hd
        go_quiet_grown (first | (go_at_call 19; refine Calls.grown_of (hcg _ _)))
        clear lj lp hcg
        go_wp2_with fail
        go_roundw
        case rel => exact ⟨i, h, rfl, by first | rfl | go_num, by omega, by omega, by omega, SG.out nq osq, HI, ⟨fun _ => Hd.out⟩⟩
        case measure => simp [intOf]; omega
    · obtain rfl : i = j := by omega
      have HF : Kp (SymOK (ltOf cf) (get d) (rotF (get d) a (a + 1) (i - 1 + 1)) a m b) := ⟨by
        obtain ⟨q1, q2⟩ := cut_low HT.out HV.out hmi hjb HI.out HJ.out
        rw [show i - 1 + 1 = i by omega, Hm.out]
        rw [Hm.out] at q1 hmi
        exact symOK_one hmi hjb q1 q2⟩
      have hwi : IntKind.i64.wrap ((i : Int) - 1) = (i : Int) - 1 := by rw [IntKind.wrap_i64]; omega
      clear HI HJ hlt hij HC HT HV
      go_wp2_with fail
      go_loopw [13] (fun s wr => ∃ (q : Nat) (dk : Array α), s = .int .i64 q ∧ a ≤ q ∧ q ≤ i - 1 ∧ dk.size = d.size ∧ Aside (SWK enc k w0 blk off dk wr) ∧ Kp (get dk = rotF (get d) a (a + 1) (q + 1))) (fun s _ => i - (intOf s).toNat)
      case atStart => exact ⟨a, d, rfl, Nat.le_refl _, by omega, rfl, S1, ⟨(up_start _ _).symm⟩⟩
      case round =>
        clear S1
        obtain ⟨q, dk, rfl, haq, hqi, hds, S1, HG⟩ := hrel
        by_cases hlt : q < i - 1
        · have hltz : (q : Int) < (i : Int) - 1 := by omega
          go_wp2_with fail
          have ea44 : ((q : Int)).toNat = q := by omega
          have pa44 : (0 : Int) ≤ (q : Int) := by omega
          have ba44 : (q : Int) < (d.size : Int) := by omega
          have ec44 : ((q : Int) + 1).toNat = q + 1 := by omega
          have pc44 : (0 : Int) ≤ (q : Int) + 1 := by omega
          have bc44 : (q : Int) + 1 < (d.size : Int) := by omega
          have rc44 : IntKind.i64.wrap ((q : Int) + 1) = (q : Int) + 1 := by rw [IntKind.wrap_i64]; omega
          have S2 : Aside (SWK enc k w0 blk off (swp dk q (q + 1)) ((wr.drew.setCells blk (off + q * k) (enc dk[q + 1]!)).setCells blk (off + (q + 1) * k) (enc dk[q]!))) := S1.out.swapped R q (q + 1) (by omega) (by omega)
          have HN : Kp (get (swp dk q (q + 1)) = rotF (get d) a (a + 1) (q + 1 + 1)) := ⟨up_step haq (by omega) HG.out⟩
          have l44a := S1.out.ld1 R (by omega) P q (by omega)
          have l44b := S1.out.ld1 R (by omega) P (q + 1) (by omega)
          have s44a := S1.out.st1 R (by omega) P q (by omega) dk[q + 1]!
          have s44b := S1.out.st2 R (by omega) P q (q + 1) (by omega) (by omega) dk[q + 1]! dk[q]!
          have n44a : (enc dk[q]!).length = k := R.hk _
          have n44b : (enc dk[q + 1]!).length = k := R.hk _
          have hsw : (swp dk q (q + 1)).size = d.size := by rw [size_swp]; exact hds
          generalize enc dk[q]! = cI44 at S2 l44a s44b n44a
          generalize enc dk[q + 1]! = cJ44 at S2 l44b s44a s44b n44b
          generalize swp dk q (q + 1) = dn at S2 HN hsw
          clear S1 HG
          go_big_region_o
          clear l44a l44b s44a s44b
          generalize (wr.drew.setCells blk (off + q * k) cJ44).setCells blk (off + (q + 1) * k) cI44 = w2 at S2 ⊢
          go_wp2_with fail
          go_roundw
          case rel => exact ⟨q + 1, dn, by first | rfl | go_num, by omega, by omega, hsw, S2, HN⟩
          case measure => simp [intOf]; omega
        · obtain rfl : q = i - 1 := by omega
          have hltz : ¬ ((i - 1 : Nat) : Int) < (i : Int) - 1 := by omega
          go_wp2_with fail
          go_end0
          exact ⟨rfl, dk, hds, S1.out, by rw [HG.out]; exact HF.out⟩
end Go.Proofs.Ytpgkpigpehehmaa.Bas
